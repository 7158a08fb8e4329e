/-
  Plain: texts merged into one: FD FE FI FJ FK FL FV FW FX FY FZ GK GL GN GO GQ.
  Conditions: as each theorem says.
  Plain: sums, products and quotients of floats between bounds; what a join of two logarithms adds.
  Conditions: as each theorem says.
  Plain: the logarithm of one and something: never negative, at most 45/64, what a join adds.
  Conditions: as each theorem says.
  Contract: the paper's narrowing.
  Conditions: the narrowed number has a value.
  Contracts: the exponential function of both programs, up to the bits of a NaN.
  Conditions: the number is a NaN, minus infinity, or finite and not above nought.
  Contracts: the paper's exponential in single precision, and the logarithm of both programs, up to the bits of a NaN.
  Conditions: the exponential's number is a gap (GU); the logarithm's is a NaN or between one and two.
  Contracts: the logarithm of both programs, up to the bits of a NaN.
  Conditions: the number is a NaN or between one and two.
  Plain: blocks of cells in a world.
  Conditions: none.
  Contracts: logarithms of sums that may not be there: joined and added to, both programs, up to the bits of a NaN.
  Conditions: none.
-/
import Derived.Test.YtopeidmafalklaaPk01
import Derived.Lib.Hide
import Derived.Lib.SlBytesConst
import Derived.RangeFuncBox
import Derived.Deep.RegionHeld3

namespace Go.Proofs.Ytopeidmafalklaa
open Ieee Go.RowKit

/-- the significand and the place (above -1074) of a word that is not negative -/
def manD (w : Nat) : Nat := if w < 4503599627370496 then w else 4503599627370496 + w % 4503599627370496
def plcD (w : Nat) : Nat := w / 4503599627370496 - 1
/-- the value of a word, in units of 2 to the power of -1074 -/
def VD (w : Nat) : Nat := manD w * 2 ^ plcD w
theorem word_parts (w : Nat) : w = plcD w * 4503599627370496 + manD w := by
  unfold plcD manD
  split
  · rename_i h
    rw [Nat.div_eq_of_lt h]
    simp
  · rename_i h
    have h1 := Nat.div_add_mod w 4503599627370496
    have h2 : 1 ≤ w / 4503599627370496 := (Nat.le_div_iff_mul_le (by decide)).2 (by omega)
    omega
theorem manD_lt (w : Nat) : manD w < 9007199254740992 := by
  unfold manD
  split
  · omega
  · have := Nat.mod_lt w (show 0 < 4503599627370496 by decide)
    omega
theorem manD_ge {w : Nat} (h : 1 ≤ plcD w) : 4503599627370496 ≤ manD w := by
  unfold plcD at h
  unfold manD
  rw [if_neg (by
    intro hlt
    rw [Nat.div_eq_of_lt hlt] at h
    omega)]
  omega
theorem read_pos {w : Nat} (h : w < 9218868437227405312) : double.read w = .number false (manD w) (-1074 + (plcD w : Int)) := by
  have e1 : w / double.signWeight % 2 = 0 := by rw [sw64]; omega
  have e2 : w % double.signWeight = w := by rw [sw64]; omega
  have el : double.leastPlace = -1074 := by decide
  unfold Format.read manD plcD
  simp only [e1, e2, bi64, ir64, el]
  by_cases h1 : w < 4503599627370496
  · rw [if_pos h1, if_pos h1, Nat.div_eq_of_lt h1]
    rfl
  · rw [if_neg h1, if_neg h1, if_pos h]
    rfl
/-- a cut does not pass a whole number -/
theorem cut_leW (neg : Bool) (n drop m : Nat) (h : n ≤ m * 2 ^ drop) : Toward.even.cut neg n drop ≤ m := by
  unfold Toward.cut
  dsimp only
  rw [Nat.shiftLeft_eq, Nat.one_mul]
  have hm : ∀ b : Bool, b.toNat ≤ 1 := by intro b; cases b <;> decide
  by_cases hd : drop ≤ n.log2 + 2
  · rw [Nat.min_eq_left hd]
    have hp : 0 < 2 ^ drop := Nat.two_pow_pos _
    have h1 : n / 2 ^ drop ≤ m := Nat.div_le_of_le_mul (by rw [Nat.mul_comm]; exact h)
    by_cases h2 : n / 2 ^ drop = m
    · have h3 := Nat.div_add_mod n (2 ^ drop)
      rw [h2] at h3
      have h4 : n % 2 ^ drop = 0 := by
        have : 2 ^ drop * m = m * 2 ^ drop := Nat.mul_comm _ _
        omega
      rw [h4, h2]
      have e1 : (decide (2 ^ drop < 2 * 0) || (2 ^ drop == 2 * 0 && m % 2 == 1)) = false := by
        rw [decide_eq_false (by omega), show (2 ^ drop == 2 * 0) = false by rw [beq_eq_false_iff_ne]; omega]
        rfl
      rw [e1]
      exact Nat.le_refl _
    · have := hm (decide (2 ^ drop < 2 * (n % 2 ^ drop)) || (2 ^ drop == 2 * (n % 2 ^ drop) && n / 2 ^ drop % 2 == 1))
      omega
  · rw [Nat.min_eq_right (by omega)]
    have h1 : n < 2 ^ (n.log2 + 1) := Nat.lt_log2_self
    have h0 : n < 2 ^ (n.log2 + 2) := Nat.lt_of_lt_of_le h1 (Nat.pow_le_pow_right (by omega) (by omega))
    have hpp : 2 ^ (n.log2 + 2) = 2 * 2 ^ (n.log2 + 1) := by rw [show n.log2 + 2 = (n.log2 + 1) + 1 by omega, Nat.pow_succ]; omega
    rw [Nat.div_eq_of_lt h0, Nat.mod_eq_of_lt h0]
    have e1 : (decide (2 ^ (n.log2 + 2) < 2 * n) || (2 ^ (n.log2 + 2) == 2 * n && 0 % 2 == 1)) = false := by
      rw [decide_eq_false (by omega), show (2 ^ (n.log2 + 2) == 2 * n) = false by rw [beq_eq_false_iff_ne]; omega]
      rfl
    rw [e1]
    exact Nat.zero_le _
theorem cut_geW (neg : Bool) (n drop m : Nat) (h : m * 2 ^ drop ≤ n) (hm : m ≠ 0) : m ≤ Toward.even.cut neg n drop := by
  have hp : 0 < 2 ^ drop := Nat.two_pow_pos _
  have hn : 2 ^ drop ≤ n := Nat.le_trans (Nat.le_mul_of_pos_left _ (Nat.pos_of_ne_zero hm)) h
  have hd : drop ≤ n.log2 := (Nat.le_log2 (by omega)).2 hn
  unfold Toward.cut
  dsimp only
  rw [Nat.shiftLeft_eq, Nat.one_mul, Nat.min_eq_left (by omega)]
  have h1 : m ≤ n / 2 ^ drop := (Nat.le_div_iff_mul_le hp).2 h
  omega

/-- rounding does not pass a number of double precision, upwards -/
theorem nearest_le {mag : Nat} {place : Int} {c S E : Nat} (hE : (E : Int) = place + 1074 + (S : Int)) (h : mag * 2 ^ E ≤ VD c * 2 ^ S) : double.nearest false mag place ≤ c := by
  have hw : ∀ r, double.word false r = r := fun r => rfl
  have el : double.leastPlace = -1074 := by decide
  have ef : (double.fractionBits : Int) = 52 := rfl
  unfold Format.nearest
  split
  · rw [hw]; exact Nat.zero_le _
  · rename_i h0
    simp only [hw]
    refine Nat.le_trans (Nat.min_le_left _ _) ?_
    rw [bi64, el, ef]
    obtain ⟨last, hlast⟩ : ∃ last, max (place + (mag.log2 : Int) - 52) (-1074) = last := ⟨_, rfl⟩
    rw [hlast]
    obtain ⟨L, hL⟩ : ∃ L : Nat, last = (L : Int) - 1074 := ⟨(last + 1074).toNat, by omega⟩
    have hLn : (last - -1074).toNat = L := by omega
    rw [hLn]
    have hc := word_parts c
    have hm := manD_lt c
    unfold VD at h
    obtain ⟨P, hP⟩ : ∃ P, plcD c = P := ⟨_, rfl⟩
    obtain ⟨Mc, hMc⟩ : ∃ Mc, manD c = Mc := ⟨_, rfl⟩
    have hge : 1 ≤ P → 4503599627370496 ≤ Mc := fun hp => by rw [← hMc]; exact manD_ge (by rw [hP]; exact hp)
    rw [hP, hMc] at hc h
    rw [hMc] at hm
    have hmag : mag < 2 ^ (mag.log2 + 1) := Nat.lt_log2_self
    rcases Nat.lt_trichotomy L P with hLP | hLP | hLP
    · have hk : Toward.even.cut false (mag <<< (place - last).toNat) (last - place).toNat ≤ 2 ^ 53 := by
        apply cutE_le
        rw [Nat.shiftLeft_eq]
        have h2 : mag * 2 ^ (place - last).toNat < 2 ^ (mag.log2 + 1) * 2 ^ (place - last).toNat := Nat.mul_lt_mul_of_pos_right hmag (Nat.two_pow_pos _)
        rw [← Nat.pow_add] at h2
        exact Nat.lt_of_lt_of_le h2 (Nat.pow_le_pow_right (by omega) (by omega))
      rw [show (2 : Nat) ^ 53 = 9007199254740992 by decide] at hk
      have := hge (by omega)
      have h3 : (L + 1) * 4503599627370496 ≤ P * 4503599627370496 := Nat.mul_le_mul_right _ hLP
      omega
    · subst hLP
      have hk : Toward.even.cut false (mag <<< (place - last).toNat) (last - place).toNat ≤ Mc := by
        apply cut_leW
        rw [Nat.shiftLeft_eq]
        have hpos : 0 < 2 ^ (L + S) := Nat.two_pow_pos _
        by_cases hpl : last ≤ place
        · obtain ⟨d, hd⟩ : ∃ d : Nat, place - last = (d : Int) := ⟨(place - last).toNat, by omega⟩
          rw [show (place - last).toNat = d by omega, show (last - place).toNat = 0 by omega, Nat.pow_zero, Nat.mul_one]
          rw [show E = d + (L + S) by omega, Nat.pow_add, ← Nat.mul_assoc, Nat.mul_assoc Mc, ← Nat.pow_add] at h
          exact Nat.le_of_mul_le_mul_right h hpos
        · obtain ⟨d, hd⟩ : ∃ d : Nat, last - place = (d : Int) := ⟨(last - place).toNat, by omega⟩
          rw [show (place - last).toNat = 0 by omega, show (last - place).toNat = d by omega, Nat.pow_zero, Nat.mul_one]
          have h2 : mag * 2 ^ E * 2 ^ d ≤ Mc * 2 ^ L * 2 ^ S * 2 ^ d := Nat.mul_le_mul_right _ h
          rw [Nat.mul_assoc, ← Nat.pow_add, show E + d = L + S by omega, Nat.mul_assoc Mc, ← Nat.pow_add, Nat.mul_assoc Mc, Nat.mul_comm (2 ^ (L + S)), ← Nat.mul_assoc] at h2
          exact Nat.le_of_mul_le_mul_right h2 hpos
      omega
    · exfalso
      have hl2 : last = place + (mag.log2 : Int) - 52 := by omega
      have h1 : 2 ^ mag.log2 ≤ mag := Nat.log2_self_le h0
      have h2 : 2 ^ mag.log2 * 2 ^ E ≤ Mc * 2 ^ P * 2 ^ S := Nat.le_trans (Nat.mul_le_mul_right _ h1) h
      have hp : 0 < 2 ^ (P + S) := Nat.two_pow_pos _
      have h3 : Mc * 2 ^ (P + S) < 2 ^ 53 * 2 ^ (P + S) := Nat.mul_lt_mul_of_pos_right (by rw [show (2 : Nat) ^ 53 = 9007199254740992 by decide]; exact hm) hp
      rw [← Nat.pow_add, Nat.mul_assoc, ← Nat.pow_add, show mag.log2 + E = L + 52 + S by omega] at h2
      rw [← Nat.pow_add] at h3
      have h4 : 2 ^ (L + 52 + S) < 2 ^ (53 + (P + S)) := Nat.lt_of_le_of_lt h2 h3
      have h5 := (Nat.pow_lt_pow_iff_right (a := 2) (by decide)).1 h4
      omega
/-- rounding does not pass a number of double precision, downwards -/
theorem nearest_ge {mag : Nat} {place : Int} {c S E : Nat} (hcf : c ≤ 9218868437227405312) (hE : (E : Int) = place + 1074 + (S : Int)) (h : VD c * 2 ^ S ≤ mag * 2 ^ E) : c ≤ double.nearest false mag place := by
  have hw : ∀ r, double.word false r = r := fun r => rfl
  have el : double.leastPlace = -1074 := by decide
  have ef : (double.fractionBits : Int) = 52 := rfl
  have hc := word_parts c
  by_cases hM0 : manD c = 0
  · have hP0 : plcD c = 0 := by
      have := manD_ge (w := c)
      omega
    rw [hM0, hP0] at hc
    omega
  have hV : 0 < VD c := Nat.mul_pos (Nat.pos_of_ne_zero hM0) (Nat.two_pow_pos _)
  unfold Format.nearest
  split
  · rename_i h0
    rw [h0] at h
    have := Nat.mul_pos hV (Nat.two_pow_pos S)
    omega
  · rename_i h0
    simp only [hw]
    rw [bi64, el, ef, ir64]
    refine Nat.le_min.2 ⟨?_, hcf⟩
    obtain ⟨last, hlast⟩ : ∃ last, max (place + (mag.log2 : Int) - 52) (-1074) = last := ⟨_, rfl⟩
    rw [hlast]
    obtain ⟨L, hL⟩ : ∃ L : Nat, last = (L : Int) - 1074 := ⟨(last + 1074).toNat, by omega⟩
    have hLn : (last - -1074).toNat = L := by omega
    rw [hLn]
    have hm := manD_lt c
    unfold VD at h
    obtain ⟨P, hP⟩ : ∃ P, plcD c = P := ⟨_, rfl⟩
    obtain ⟨Mc, hMc⟩ : ∃ Mc, manD c = Mc := ⟨_, rfl⟩
    have hge : 1 ≤ P → 4503599627370496 ≤ Mc := fun hp => by rw [← hMc]; exact manD_ge (by rw [hP]; exact hp)
    rw [hP, hMc] at hc h
    rw [hMc] at hm hM0
    have hmag : mag < 2 ^ (mag.log2 + 1) := Nat.lt_log2_self
    rcases Nat.lt_trichotomy L P with hLP | hLP | hLP
    · exfalso
      have h4 := hge (by omega)
      have hp : 0 < 2 ^ (P + S) := Nat.two_pow_pos _
      have h3 : 2 ^ 52 * 2 ^ (P + S) ≤ Mc * 2 ^ (P + S) := Nat.mul_le_mul_right _ (by rw [show (2 : Nat) ^ 52 = 4503599627370496 by decide]; exact h4)
      have h5 : mag * 2 ^ E < 2 ^ (mag.log2 + 1) * 2 ^ E := Nat.mul_lt_mul_of_pos_right hmag (Nat.two_pow_pos _)
      rw [Nat.mul_assoc, ← Nat.pow_add] at h
      rw [← Nat.pow_add] at h3 h5
      have h6 : 2 ^ (52 + (P + S)) < 2 ^ (mag.log2 + 1 + E) := Nat.lt_of_le_of_lt (Nat.le_trans h3 h) h5
      have h7 := (Nat.pow_lt_pow_iff_right (a := 2) (by decide)).1 h6
      omega
    · subst hLP
      have hk : Mc ≤ Toward.even.cut false (mag <<< (place - last).toNat) (last - place).toNat := by
        refine cut_geW _ _ _ _ ?_ hM0
        rw [Nat.shiftLeft_eq]
        have hpos : 0 < 2 ^ (L + S) := Nat.two_pow_pos _
        by_cases hpl : last ≤ place
        · obtain ⟨d, hd⟩ : ∃ d : Nat, place - last = (d : Int) := ⟨(place - last).toNat, by omega⟩
          rw [show (place - last).toNat = d by omega, show (last - place).toNat = 0 by omega, Nat.pow_zero, Nat.mul_one]
          rw [show E = d + (L + S) by omega, Nat.pow_add 2 d, ← Nat.mul_assoc mag, Nat.mul_assoc Mc, ← Nat.pow_add] at h
          exact Nat.le_of_mul_le_mul_right h hpos
        · obtain ⟨d, hd⟩ : ∃ d : Nat, last - place = (d : Int) := ⟨(last - place).toNat, by omega⟩
          rw [show (place - last).toNat = 0 by omega, show (last - place).toNat = d by omega, Nat.pow_zero, Nat.mul_one]
          have h2 : Mc * 2 ^ L * 2 ^ S * 2 ^ d ≤ mag * 2 ^ E * 2 ^ d := Nat.mul_le_mul_right _ h
          rw [Nat.mul_assoc mag, ← Nat.pow_add, show E + d = L + S by omega, Nat.mul_assoc Mc, ← Nat.pow_add, Nat.mul_assoc Mc, Nat.mul_comm (2 ^ (L + S)), ← Nat.mul_assoc] at h2
          exact Nat.le_of_mul_le_mul_right h2 hpos
      omega
    · have hl2 : last = place + (mag.log2 : Int) - 52 := by omega
      have hk : 2 ^ 52 ≤ Toward.even.cut false (mag <<< (place - last).toNat) (last - place).toNat := by
        refine cut_geW _ _ _ _ ?_ (by decide)
        rw [Nat.shiftLeft_eq]
        have h1 : 2 ^ mag.log2 ≤ mag := Nat.log2_self_le h0
        have h2 : 2 ^ mag.log2 * 2 ^ (place - last).toNat ≤ mag * 2 ^ (place - last).toNat := Nat.mul_le_mul_right _ h1
        refine Nat.le_trans ?_ h2
        rw [← Nat.pow_add, ← Nat.pow_add]
        exact Nat.pow_le_pow_right (by decide) (by omega)
      rw [show (2 : Nat) ^ 52 = 4503599627370496 by decide] at hk
      have h3 : (P + 1) * 4503599627370496 ≤ L * 4503599627370496 := Nat.mul_le_mul_right _ hLP
      omega

end Go.Proofs.Ytopeidmafalklaa

namespace Go.Proofs.Ytopeidmafalklaa
open Ieee Go.RowKit

/-- the significand and the place (above -149) of a word that is not negative -/
def manF (w : Nat) : Nat := if w < 8388608 then w else 8388608 + w % 8388608
def plcF (w : Nat) : Nat := w / 8388608 - 1
/-- the value of a word, in units of 2 to the power of -149 -/
def VF (w : Nat) : Nat := manF w * 2 ^ plcF w
theorem word_partsF (w : Nat) : w = plcF w * 8388608 + manF w := by
  unfold plcF manF
  split
  · rename_i h
    rw [Nat.div_eq_of_lt h]
    simp
  · rename_i h
    have h1 := Nat.div_add_mod w 8388608
    have h2 : 1 ≤ w / 8388608 := (Nat.le_div_iff_mul_le (by decide)).2 (by omega)
    omega
theorem manF_lt (w : Nat) : manF w < 16777216 := by
  unfold manF
  split
  · omega
  · have := Nat.mod_lt w (show 0 < 8388608 by decide)
    omega
theorem manF_ge {w : Nat} (h : 1 ≤ plcF w) : 8388608 ≤ manF w := by
  unfold plcF at h
  unfold manF
  rw [if_neg (by
    intro hlt
    rw [Nat.div_eq_of_lt hlt] at h
    omega)]
  omega
theorem read_posF {w : Nat} (h : w < 2139095040) : single.read w = .number false (manF w) (-149 + (plcF w : Int)) := by
  have e1 : w / single.signWeight % 2 = 0 := by rw [sw32]; omega
  have e2 : w % single.signWeight = w := by rw [sw32]; omega
  have el : single.leastPlace = -149 := by decide
  unfold Format.read manF plcF
  simp only [e1, e2, bi32, ir32, el]
  by_cases h1 : w < 8388608
  · rw [if_pos h1, if_pos h1, Nat.div_eq_of_lt h1]
    rfl
  · rw [if_neg h1, if_neg h1, if_pos h]
    rfl
/-- rounding does not pass a number of single precision, upwards -/
theorem nearest_leF {mag : Nat} {place : Int} {c S E : Nat} (hE : (E : Int) = place + 149 + (S : Int)) (h : mag * 2 ^ E ≤ VF c * 2 ^ S) : single.nearest false mag place ≤ c := by
  have hw : ∀ r, single.word false r = r := fun r => rfl
  have el : single.leastPlace = -149 := by decide
  have ef : (single.fractionBits : Int) = 23 := rfl
  unfold Format.nearest
  split
  · rw [hw]; exact Nat.zero_le _
  · rename_i h0
    simp only [hw]
    refine Nat.le_trans (Nat.min_le_left _ _) ?_
    rw [bi32, el, ef]
    obtain ⟨last, hlast⟩ : ∃ last, max (place + (mag.log2 : Int) - 23) (-149) = last := ⟨_, rfl⟩
    rw [hlast]
    obtain ⟨L, hL⟩ : ∃ L : Nat, last = (L : Int) - 149 := ⟨(last + 149).toNat, by omega⟩
    have hLn : (last - -149).toNat = L := by omega
    rw [hLn]
    have hc := word_partsF c
    have hm := manF_lt c
    unfold VF at h
    obtain ⟨P, hP⟩ : ∃ P, plcF c = P := ⟨_, rfl⟩
    obtain ⟨Mc, hMc⟩ : ∃ Mc, manF c = Mc := ⟨_, rfl⟩
    have hge : 1 ≤ P → 8388608 ≤ Mc := fun hp => by rw [← hMc]; exact manF_ge (by rw [hP]; exact hp)
    rw [hP, hMc] at hc h
    rw [hMc] at hm
    have hmag : mag < 2 ^ (mag.log2 + 1) := Nat.lt_log2_self
    rcases Nat.lt_trichotomy L P with hLP | hLP | hLP
    · have hk : Toward.even.cut false (mag <<< (place - last).toNat) (last - place).toNat ≤ 2 ^ 24 := by
        apply cutE_le
        rw [Nat.shiftLeft_eq]
        have h2 : mag * 2 ^ (place - last).toNat < 2 ^ (mag.log2 + 1) * 2 ^ (place - last).toNat := Nat.mul_lt_mul_of_pos_right hmag (Nat.two_pow_pos _)
        rw [← Nat.pow_add] at h2
        exact Nat.lt_of_lt_of_le h2 (Nat.pow_le_pow_right (by omega) (by omega))
      rw [show (2 : Nat) ^ 24 = 16777216 by decide] at hk
      have := hge (by omega)
      have h3 : (L + 1) * 8388608 ≤ P * 8388608 := Nat.mul_le_mul_right _ hLP
      omega
    · subst hLP
      have hk : Toward.even.cut false (mag <<< (place - last).toNat) (last - place).toNat ≤ Mc := by
        apply cut_leW
        rw [Nat.shiftLeft_eq]
        have hpos : 0 < 2 ^ (L + S) := Nat.two_pow_pos _
        by_cases hpl : last ≤ place
        · obtain ⟨d, hd⟩ : ∃ d : Nat, place - last = (d : Int) := ⟨(place - last).toNat, by omega⟩
          rw [show (place - last).toNat = d by omega, show (last - place).toNat = 0 by omega, Nat.pow_zero, Nat.mul_one]
          rw [show E = d + (L + S) by omega, Nat.pow_add, ← Nat.mul_assoc, Nat.mul_assoc Mc, ← Nat.pow_add] at h
          exact Nat.le_of_mul_le_mul_right h hpos
        · obtain ⟨d, hd⟩ : ∃ d : Nat, last - place = (d : Int) := ⟨(last - place).toNat, by omega⟩
          rw [show (place - last).toNat = 0 by omega, show (last - place).toNat = d by omega, Nat.pow_zero, Nat.mul_one]
          have h2 : mag * 2 ^ E * 2 ^ d ≤ Mc * 2 ^ L * 2 ^ S * 2 ^ d := Nat.mul_le_mul_right _ h
          rw [Nat.mul_assoc, ← Nat.pow_add, show E + d = L + S by omega, Nat.mul_assoc Mc, ← Nat.pow_add, Nat.mul_assoc Mc, Nat.mul_comm (2 ^ (L + S)), ← Nat.mul_assoc] at h2
          exact Nat.le_of_mul_le_mul_right h2 hpos
      omega
    · exfalso
      have hl2 : last = place + (mag.log2 : Int) - 23 := by omega
      have h1 : 2 ^ mag.log2 ≤ mag := Nat.log2_self_le h0
      have h2 : 2 ^ mag.log2 * 2 ^ E ≤ Mc * 2 ^ P * 2 ^ S := Nat.le_trans (Nat.mul_le_mul_right _ h1) h
      have hp : 0 < 2 ^ (P + S) := Nat.two_pow_pos _
      have h3 : Mc * 2 ^ (P + S) < 2 ^ 24 * 2 ^ (P + S) := Nat.mul_lt_mul_of_pos_right (by rw [show (2 : Nat) ^ 24 = 16777216 by decide]; exact hm) hp
      rw [← Nat.pow_add, Nat.mul_assoc, ← Nat.pow_add, show mag.log2 + E = L + 23 + S by omega] at h2
      rw [← Nat.pow_add] at h3
      have h4 : 2 ^ (L + 23 + S) < 2 ^ (24 + (P + S)) := Nat.lt_of_le_of_lt h2 h3
      have h5 := (Nat.pow_lt_pow_iff_right (a := 2) (by decide)).1 h4
      omega
/-- rounding does not pass a number of single precision, downwards -/
theorem nearest_geF {mag : Nat} {place : Int} {c S E : Nat} (hcf : c ≤ 2139095040) (hE : (E : Int) = place + 149 + (S : Int)) (h : VF c * 2 ^ S ≤ mag * 2 ^ E) : c ≤ single.nearest false mag place := by
  have hw : ∀ r, single.word false r = r := fun r => rfl
  have el : single.leastPlace = -149 := by decide
  have ef : (single.fractionBits : Int) = 23 := rfl
  have hc := word_partsF c
  by_cases hM0 : manF c = 0
  · have hP0 : plcF c = 0 := by
      have := manF_ge (w := c)
      omega
    rw [hM0, hP0] at hc
    omega
  have hV : 0 < VF c := Nat.mul_pos (Nat.pos_of_ne_zero hM0) (Nat.two_pow_pos _)
  unfold Format.nearest
  split
  · rename_i h0
    rw [h0] at h
    have := Nat.mul_pos hV (Nat.two_pow_pos S)
    omega
  · rename_i h0
    simp only [hw]
    rw [bi32, el, ef, ir32]
    refine Nat.le_min.2 ⟨?_, hcf⟩
    obtain ⟨last, hlast⟩ : ∃ last, max (place + (mag.log2 : Int) - 23) (-149) = last := ⟨_, rfl⟩
    rw [hlast]
    obtain ⟨L, hL⟩ : ∃ L : Nat, last = (L : Int) - 149 := ⟨(last + 149).toNat, by omega⟩
    have hLn : (last - -149).toNat = L := by omega
    rw [hLn]
    have hm := manF_lt c
    unfold VF at h
    obtain ⟨P, hP⟩ : ∃ P, plcF c = P := ⟨_, rfl⟩
    obtain ⟨Mc, hMc⟩ : ∃ Mc, manF c = Mc := ⟨_, rfl⟩
    have hge : 1 ≤ P → 8388608 ≤ Mc := fun hp => by rw [← hMc]; exact manF_ge (by rw [hP]; exact hp)
    rw [hP, hMc] at hc h
    rw [hMc] at hm hM0
    have hmag : mag < 2 ^ (mag.log2 + 1) := Nat.lt_log2_self
    rcases Nat.lt_trichotomy L P with hLP | hLP | hLP
    · exfalso
      have h4 := hge (by omega)
      have hp : 0 < 2 ^ (P + S) := Nat.two_pow_pos _
      have h3 : 2 ^ 23 * 2 ^ (P + S) ≤ Mc * 2 ^ (P + S) := Nat.mul_le_mul_right _ (by rw [show (2 : Nat) ^ 23 = 8388608 by decide]; exact h4)
      have h5 : mag * 2 ^ E < 2 ^ (mag.log2 + 1) * 2 ^ E := Nat.mul_lt_mul_of_pos_right hmag (Nat.two_pow_pos _)
      rw [Nat.mul_assoc, ← Nat.pow_add] at h
      rw [← Nat.pow_add] at h3 h5
      have h6 : 2 ^ (23 + (P + S)) < 2 ^ (mag.log2 + 1 + E) := Nat.lt_of_le_of_lt (Nat.le_trans h3 h) h5
      have h7 := (Nat.pow_lt_pow_iff_right (a := 2) (by decide)).1 h6
      omega
    · subst hLP
      have hk : Mc ≤ Toward.even.cut false (mag <<< (place - last).toNat) (last - place).toNat := by
        refine cut_geW _ _ _ _ ?_ hM0
        rw [Nat.shiftLeft_eq]
        have hpos : 0 < 2 ^ (L + S) := Nat.two_pow_pos _
        by_cases hpl : last ≤ place
        · obtain ⟨d, hd⟩ : ∃ d : Nat, place - last = (d : Int) := ⟨(place - last).toNat, by omega⟩
          rw [show (place - last).toNat = d by omega, show (last - place).toNat = 0 by omega, Nat.pow_zero, Nat.mul_one]
          rw [show E = d + (L + S) by omega, Nat.pow_add 2 d, ← Nat.mul_assoc mag, Nat.mul_assoc Mc, ← Nat.pow_add] at h
          exact Nat.le_of_mul_le_mul_right h hpos
        · obtain ⟨d, hd⟩ : ∃ d : Nat, last - place = (d : Int) := ⟨(last - place).toNat, by omega⟩
          rw [show (place - last).toNat = 0 by omega, show (last - place).toNat = d by omega, Nat.pow_zero, Nat.mul_one]
          have h2 : Mc * 2 ^ L * 2 ^ S * 2 ^ d ≤ mag * 2 ^ E * 2 ^ d := Nat.mul_le_mul_right _ h
          rw [Nat.mul_assoc mag, ← Nat.pow_add, show E + d = L + S by omega, Nat.mul_assoc Mc, ← Nat.pow_add, Nat.mul_assoc Mc, Nat.mul_comm (2 ^ (L + S)), ← Nat.mul_assoc] at h2
          exact Nat.le_of_mul_le_mul_right h2 hpos
      omega
    · have hl2 : last = place + (mag.log2 : Int) - 23 := by omega
      have hk : 2 ^ 23 ≤ Toward.even.cut false (mag <<< (place - last).toNat) (last - place).toNat := by
        refine cut_geW _ _ _ _ ?_ (by decide)
        rw [Nat.shiftLeft_eq]
        have h1 : 2 ^ mag.log2 ≤ mag := Nat.log2_self_le h0
        have h2 : 2 ^ mag.log2 * 2 ^ (place - last).toNat ≤ mag * 2 ^ (place - last).toNat := Nat.mul_le_mul_right _ h1
        refine Nat.le_trans ?_ h2
        rw [← Nat.pow_add, ← Nat.pow_add]
        exact Nat.pow_le_pow_right (by decide) (by omega)
      rw [show (2 : Nat) ^ 23 = 8388608 by decide] at hk
      have h3 : (P + 1) * 8388608 ≤ L * 8388608 := Nat.mul_le_mul_right _ hLP
      omega

end Go.Proofs.Ytopeidmafalklaa

namespace Go.Proofs.Ytopeidmafalklaa
open Ieee Go.RowKit

/-- the word without its sign -/
def absD (x : Nat) : Nat := x % 9223372036854775808
def sgnD (x : Nat) : Bool := x / 9223372036854775808 % 2 == 1
theorem readD {x : Nat} (h : absD x < 9218868437227405312) : double.read x = .number (sgnD x) (manD (absD x)) (-1074 + (plcD (absD x) : Int)) := by
  have el : double.leastPlace = -1074 := by decide
  unfold absD at h
  unfold Format.read manD plcD absD sgnD
  simp only [sw64, bi64, ir64, el]
  by_cases h1 : x % 9223372036854775808 < 4503599627370496
  · rw [if_pos h1, if_pos h1, Nat.div_eq_of_lt h1]
    rfl
  · rw [if_neg h1, if_neg h1, if_pos h]
theorem cut_even (neg : Bool) (n d : Nat) : Toward.even.cut neg n d = Toward.even.cut false n d := by cases neg <;> rfl
theorem nearest_word (neg : Bool) (mag : Nat) (place : Int) : absD (double.nearest neg mag place) = double.nearest false mag place ∧ (double.nearest neg mag place = double.word neg (double.nearest false mag place)) ∧ double.nearest false mag place ≤ 9218868437227405312 := by
  have hw : ∀ r, double.word false r = r := fun r => rfl
  have hle : double.nearest false mag place ≤ 9218868437227405312 := by
    unfold Format.nearest
    split
    · rw [hw]; exact Nat.zero_le _
    · dsimp only
      rw [hw, ir64]
      exact Nat.min_le_right _ _
  have he : double.nearest neg mag place = double.word neg (double.nearest false mag place) := by
    unfold Format.nearest
    split
    · rw [hw]
    · dsimp only
      rw [hw, cut_even]
  refine ⟨?_, he, hle⟩
  rw [he]
  unfold absD
  obtain ⟨r, hr⟩ : ∃ r, double.nearest false mag place = r := ⟨_, rfl⟩
  rw [hr] at hle ⊢
  cases neg
  · rw [hw]; omega
  · have : double.word true r = 9223372036854775808 + r := by unfold Format.word; rw [sw64]; rfl
    rw [this]; omega
theorem sgn_word {neg : Bool} {r : Nat} (h : r ≤ 9218868437227405312) : sgnD (double.word neg r) = neg := by
  unfold sgnD
  cases neg
  · have : double.word false r = r := rfl
    rw [this, Nat.div_eq_of_lt (by omega)]
    rfl
  · have : double.word true r = 9223372036854775808 + r := by unfold Format.word; rw [sw64]; rfl
    rw [this, show (9223372036854775808 + r) / 9223372036854775808 = 1 by omega]
    rfl
/-- a product's bound -/
theorem mul_ab {x y c : Nat} (hx : absD x < 9218868437227405312) (hy : absD y < 9218868437227405312) {U : Nat} (hU : U = 1074) (h : VD (absD x) * VD (absD y) ≤ VD c * 2 ^ U) : ∃ r, floatBits .mul .f64 x y = some r ∧ absD r ≤ c ∧ sgnD r = (sgnD x ^^ sgnD y) := by
  refine ⟨double.nearest (sgnD x ^^ sgnD y) (manD (absD x) * manD (absD y)) ((-1074 + (plcD (absD x) : Int)) + (-1074 + (plcD (absD y) : Int))), ?_, ?_, ?_⟩
  · show (((double.read x).product (double.read y)).map double.write) = _
    rw [readD hx, readD hy]
    rfl
  · obtain ⟨h1, _, _⟩ := nearest_word (sgnD x ^^ sgnD y) (manD (absD x) * manD (absD y)) ((-1074 + (plcD (absD x) : Int)) + (-1074 + (plcD (absD y) : Int)))
    rw [h1]
    refine nearest_le (S := U) (E := plcD (absD x) + plcD (absD y)) (by omega) ?_
    refine Nat.le_trans (Nat.le_of_eq ?_) h
    unfold VD
    rw [Nat.pow_add]
    simp only [Nat.mul_assoc, Nat.mul_left_comm]
  · obtain ⟨_, h2, h3⟩ := nearest_word (sgnD x ^^ sgnD y) (manD (absD x) * manD (absD y)) ((-1074 + (plcD (absD x) : Int)) + (-1074 + (plcD (absD y) : Int)))
    rw [h2]
    exact sgn_word h3

theorem VD_one {U : Nat} (hU : U = 1074) : VD 4607182418800017408 = 2 ^ U := by
  have h1 : manD 4607182418800017408 = 2 ^ 52 := by decide
  obtain ⟨V, hV⟩ : ∃ V, V = 1022 := ⟨_, rfl⟩
  have h2 : plcD 4607182418800017408 = V := by rw [hV]; decide
  unfold VD
  rw [h1, h2, ← Nat.pow_add]
  congr 1
  omega
/-- a quotient of what is no greater is no greater than one -/
theorem quo_one {x y : Nat} (hx : absD x < 9218868437227405312) (hy : absD y < 9218868437227405312) (h0 : manD (absD y) ≠ 0) (h : VD (absD x) ≤ VD (absD y)) : ∃ r, floatBits .quo .f64 x y = some r ∧ absD r ≤ 4607182418800017408 ∧ sgnD r = (sgnD x ^^ sgnD y) := by
  unfold VD at h
  obtain ⟨m, hm⟩ : ∃ m, manD (absD x) = m := ⟨_, rfl⟩
  obtain ⟨n, hn⟩ : ∃ n, manD (absD y) = n := ⟨_, rfl⟩
  obtain ⟨px, hpx⟩ : ∃ p, plcD (absD x) = p := ⟨_, rfl⟩
  obtain ⟨py, hpy⟩ : ∃ p, plcD (absD y) = p := ⟨_, rfl⟩
  have rx := readD hx
  have ry := readD hy
  rw [hm, hpx] at rx
  rw [hn, hpy] at ry
  rw [hm, hn, hpx, hpy] at h
  rw [hn] at h0
  obtain ⟨more, hmore⟩ : ∃ k, 54 + n.log2 - m.log2 = k := ⟨_, rfl⟩
  obtain ⟨mag, hmag⟩ : ∃ k, 2 * ((m <<< more) / n) + ((m <<< more) % n != 0).toNat = k := ⟨_, rfl⟩
  have hq : floatBits .quo .f64 x y = some (double.nearest (sgnD x ^^ sgnD y) mag ((-1074 + (px : Int)) - (-1074 + (py : Int)) - (more : Int) - 1)) := by
    show (((double.read x).quotient 54 (double.read y)).map double.write) = _
    rw [rx, ry]
    unfold Datum.quotient
    simp only [if_neg h0, hmore, hmag]
    rfl
  have hle : mag * 2 ^ px ≤ 2 ^ (py + more + 1) := by
    rw [← hmag, Nat.shiftLeft_eq]
    by_cases hm0 : m = 0
    · rw [hm0]; simp
    have hnpos : 0 < n := Nat.pos_of_ne_zero h0
    have hpp : px ≤ py + more := by
      have h1 : 2 ^ m.log2 ≤ m := Nat.log2_self_le hm0
      have h2 : n < 2 ^ (n.log2 + 1) := Nat.lt_log2_self
      have h3 : 2 ^ m.log2 * 2 ^ px ≤ n * 2 ^ py := Nat.le_trans (Nat.mul_le_mul_right _ h1) h
      have h4 : n * 2 ^ py < 2 ^ (n.log2 + 1) * 2 ^ py := Nat.mul_lt_mul_of_pos_right h2 (Nat.two_pow_pos _)
      rw [← Nat.pow_add] at h3 h4
      have h5 := (Nat.pow_lt_pow_iff_right (a := 2) (by decide)).1 (Nat.lt_of_le_of_lt h3 h4)
      omega
    obtain ⟨d, hd⟩ : ∃ d, py + more = px + d := ⟨py + more - px, by omega⟩
    have h6 : m * 2 ^ more ≤ n * 2 ^ d := by
      have h7 : m * 2 ^ px * 2 ^ more ≤ n * 2 ^ py * 2 ^ more := Nat.mul_le_mul_right _ h
      rw [Nat.mul_assoc n, ← Nat.pow_add, hd, Nat.pow_add, Nat.mul_comm (2 ^ px), ← Nat.mul_assoc n, Nat.mul_assoc m, Nat.mul_comm (2 ^ px), ← Nat.mul_assoc m] at h7
      exact Nat.le_of_mul_le_mul_right h7 (Nat.two_pow_pos _)
    obtain ⟨D, hD⟩ : ∃ D, m * 2 ^ more = D := ⟨_, rfl⟩
    rw [hD] at h6 ⊢
    have hdm := Nat.div_add_mod D n
    have h8 : 2 * (D / n) + (D % n != 0).toNat ≤ 2 * 2 ^ d := by
      have h9 : D / n ≤ 2 ^ d := Nat.div_le_of_le_mul h6
      by_cases h10 : D / n = 2 ^ d
      · have : D % n = 0 := by rw [h10] at hdm; omega
        rw [this, h10]
        simp
      · have : (D % n != 0).toNat ≤ 1 := by cases (D % n != 0) <;> decide
        omega
    refine Nat.le_trans (Nat.mul_le_mul_right _ h8) (Nat.le_of_eq ?_)
    rw [show 2 * 2 ^ d = 2 ^ (d + 1) by rw [Nat.pow_succ]; omega, ← Nat.pow_add]
    congr 1
    omega
  obtain ⟨w1, w2, w3⟩ := nearest_word (sgnD x ^^ sgnD y) mag ((-1074 + (px : Int)) - (-1074 + (py : Int)) - (more : Int) - 1)
  refine ⟨_, hq, ?_, ?_⟩
  · rw [w1]
    obtain ⟨U, hU⟩ : ∃ U : Nat, U = 1074 := ⟨_, rfl⟩
    refine nearest_le (S := py + more + 1) (E := px + U) (by omega) ?_
    rw [VD_one hU, Nat.pow_add, ← Nat.mul_assoc, Nat.mul_comm (2 ^ U)]
    exact Nat.mul_le_mul_right _ hle
  · rw [w2]
    exact sgn_word w3

/-- the exact sum of two numbers, in units of 2 to the power of -1074 -/
def totD (x y : Nat) : Int := (if sgnD x then -(VD (absD x) : Int) else VD (absD x)) + (if sgnD y then -(VD (absD y) : Int) else VD (absD y))
theorem signed_val (s : Bool) (m k b : Nat) : signed s m k * (2 ^ b : Nat) = if s then -((m * 2 ^ (k + b) : Nat) : Int) else ((m * 2 ^ (k + b) : Nat) : Int) := by
  unfold signed
  rw [Nat.shiftLeft_eq, Nat.pow_add, ← Nat.mul_assoc]
  cases s
  · simp
  · simp [Int.neg_mul]
theorem sum_parts {x y : Nat} (hx : absD x < 9218868437227405312) (hy : absD y < 9218868437227405312) : ∃ (neg : Bool) (mag b : Nat), floatBits .add .f64 x y = some (double.nearest neg mag (-1074 + (b : Int))) ∧ ((mag * 2 ^ b : Nat) : Int) = (totD x y).natAbs ∧ (0 < totD x y → neg = false) ∧ (totD x y < 0 → neg = true) ∧ (totD x y = 0 → neg = (sgnD x && sgnD y)) := by
  obtain ⟨m, hm⟩ : ∃ m, manD (absD x) = m := ⟨_, rfl⟩
  obtain ⟨n, hn⟩ : ∃ n, manD (absD y) = n := ⟨_, rfl⟩
  obtain ⟨px, hpx⟩ : ∃ p, plcD (absD x) = p := ⟨_, rfl⟩
  obtain ⟨py, hpy⟩ : ∃ p, plcD (absD y) = p := ⟨_, rfl⟩
  have rx := readD hx
  have ry := readD hy
  rw [hm, hpx] at rx
  rw [hn, hpy] at ry
  obtain ⟨b, hb⟩ : ∃ b, min px py = b := ⟨_, rfl⟩
  have hbase : min (-1074 + (px : Int)) (-1074 + (py : Int)) = -1074 + (b : Int) := by omega
  obtain ⟨tot, htot⟩ : ∃ t, signed (sgnD x) m (px - b) + signed (sgnD y) n (py - b) = t := ⟨_, rfl⟩
  have hpos : (0 : Int) < ((2 ^ b : Nat) : Int) := by have := Nat.two_pow_pos b; omega
  have hT : totD x y = tot * (2 ^ b : Nat) := by
    rw [← htot, Int.add_mul, signed_val, signed_val, show px - b + b = px by omega, show py - b + b = py by omega]
    unfold totD VD
    rw [hm, hn, hpx, hpy]
  refine ⟨if tot = 0 then sgnD x && sgnD y else decide (tot < 0), tot.natAbs, b, ?_, ?_, ?_, ?_, ?_⟩
  · show (((double.read x).sum (double.read y)).map double.write) = _
    rw [rx, ry]
    unfold Datum.sum
    simp only [hbase]
    rw [show (-1074 + (px : Int) - (-1074 + (b : Int))).toNat = px - b by omega, show (-1074 + (py : Int) - (-1074 + (b : Int))).toNat = py - b by omega, htot]
    rfl
  · rw [hT, Int.natAbs_mul]
    simp
  · intro h
    rw [hT] at h
    have h0 : 0 < tot := by
      rcases Int.lt_trichotomy tot 0 with h1 | h1 | h1
      · have := Int.mul_neg_of_neg_of_pos h1 hpos; omega
      · rw [h1] at h; simp at h
      · exact h1
    rw [if_neg (by omega), decide_eq_false (by omega)]
  · intro h
    rw [hT] at h
    have h0 : tot < 0 := by
      rcases Int.lt_trichotomy tot 0 with h1 | h1 | h1
      · exact h1
      · rw [h1] at h; simp at h
      · have := Int.mul_pos h1 hpos; omega
    rw [if_neg (by omega), decide_eq_true h0]
  · intro h
    rw [hT] at h
    have h0 : tot = 0 := by
      rcases Int.lt_trichotomy tot 0 with h1 | h1 | h1
      · have := Int.mul_neg_of_neg_of_pos h1 hpos; omega
      · exact h1
      · have := Int.mul_pos h1 hpos; omega
    rw [if_pos h0]
/-- a sum's bound -/
theorem add_ab {x y c : Nat} (hx : absD x < 9218868437227405312) (hy : absD y < 9218868437227405312) (h : VD (absD x) + VD (absD y) ≤ VD c) : ∃ r, floatBits .add .f64 x y = some r ∧ absD r ≤ c := by
  obtain ⟨neg, mag, b, h1, h2, _, _, _⟩ := sum_parts hx hy
  refine ⟨_, h1, ?_⟩
  obtain ⟨w1, _, _⟩ := nearest_word neg mag (-1074 + (b : Int))
  rw [w1]
  refine nearest_le (S := 0) (E := b) (by omega) ?_
  have h3 : (totD x y).natAbs ≤ VD (absD x) + VD (absD y) := by
    unfold totD
    split <;> split <;> omega
  rw [Nat.pow_zero, Nat.mul_one]
  omega
/-- a sum that is not negative, from both sides -/
theorem add_pos {x y c e T : Nat} (hx : absD x < 9218868437227405312) (hy : absD y < 9218868437227405312) (hT : totD x y = (T : Int)) (hz : T = 0 → (sgnD x && sgnD y) = false) (hc : VD c ≤ T) (hci : c ≤ 9218868437227405312) (he : T ≤ VD e) : ∃ r, floatBits .add .f64 x y = some r ∧ c ≤ r ∧ r ≤ e := by
  obtain ⟨neg, mag, b, h1, h2, h3, h4, h5⟩ := sum_parts hx hy
  have hn : neg = false := by
    by_cases h0 : T = 0
    · rw [h5 (by omega)]; exact hz h0
    · exact h3 (by omega)
  subst hn
  have hm : mag * 2 ^ b = T := by omega
  refine ⟨_, h1, nearest_ge (S := 0) (E := b) hci (by omega) (by rw [Nat.pow_zero, Nat.mul_one]; omega), nearest_le (S := 0) (E := b) (by omega) (by rw [Nat.pow_zero, Nat.mul_one]; omega)⟩

end Go.Proofs.Ytopeidmafalklaa

namespace Go.Proofs.Ytopeidmafalklaa
open Ieee Go.RowKit

theorem VD_mono {a b : Nat} (h : a ≤ b) (hb : b ≤ 9218868437227405312) : VD a ≤ VD b := by
  by_cases hh : VD a ≤ VD b
  · exact hh
  exfalso
  have h1 := nearest_le (mag := manD a) (place := -1074 + (plcD a : Int)) (c := a) (S := 0) (E := plcD a) (by omega) (by rw [Nat.pow_zero, Nat.mul_one]; exact Nat.le_refl _)
  have h2 := nearest_ge (mag := manD a) (place := -1074 + (plcD a : Int)) (c := b) (S := 0) (E := plcD a) hb (by omega) (by rw [Nat.pow_zero, Nat.mul_one]; exact Nat.le_of_lt (Nat.lt_of_not_le hh))
  have e : a = b := by omega
  exact hh (by rw [e]; exact Nat.le_refl _)
theorem VF_mono {a b : Nat} (h : a ≤ b) (hb : b ≤ 2139095040) : VF a ≤ VF b := by
  by_cases hh : VF a ≤ VF b
  · exact hh
  exfalso
  have h1 := nearest_leF (mag := manF a) (place := -149 + (plcF a : Int)) (c := a) (S := 0) (E := plcF a) (by omega) (by rw [Nat.pow_zero, Nat.mul_one]; exact Nat.le_refl _)
  have h2 := nearest_geF (mag := manF a) (place := -149 + (plcF a : Int)) (c := b) (S := 0) (E := plcF a) hb (by omega) (by rw [Nat.pow_zero, Nat.mul_one]; exact Nat.le_of_lt (Nat.lt_of_not_le hh))
  have e : a = b := by omega
  exact hh (by rw [e]; exact Nat.le_refl _)

/-- the word without its sign, single precision -/
def absF (x : Nat) : Nat := x % 2147483648
def sgnF (x : Nat) : Bool := x / 2147483648 % 2 == 1
theorem readF {x : Nat} (h : absF x < 2139095040) : single.read x = .number (sgnF x) (manF (absF x)) (-149 + (plcF (absF x) : Int)) := by
  have el : single.leastPlace = -149 := by decide
  unfold absF at h
  unfold Format.read manF plcF absF sgnF
  simp only [sw32, bi32, ir32, el]
  by_cases h1 : x % 2147483648 < 8388608
  · rw [if_pos h1, if_pos h1, Nat.div_eq_of_lt h1]
    rfl
  · rw [if_neg h1, if_neg h1, if_pos h]
theorem nearest_wordF (neg : Bool) (mag : Nat) (place : Int) : absF (single.nearest neg mag place) = single.nearest false mag place ∧ (single.nearest neg mag place = single.word neg (single.nearest false mag place)) ∧ single.nearest false mag place ≤ 2139095040 := by
  have hw : ∀ r, single.word false r = r := fun r => rfl
  have hle : single.nearest false mag place ≤ 2139095040 := by
    unfold Format.nearest
    split
    · rw [hw]; exact Nat.zero_le _
    · dsimp only
      rw [hw, ir32]
      exact Nat.min_le_right _ _
  have he : single.nearest neg mag place = single.word neg (single.nearest false mag place) := by
    unfold Format.nearest
    split
    · rw [hw]
    · dsimp only
      rw [hw, cut_even]
  refine ⟨?_, he, hle⟩
  rw [he]
  unfold absF
  obtain ⟨r, hr⟩ : ∃ r, single.nearest false mag place = r := ⟨_, rfl⟩
  rw [hr] at hle ⊢
  cases neg
  · rw [hw]; omega
  · have : single.word true r = 2147483648 + r := by unfold Format.word; rw [sw32]; rfl
    rw [this]; omega
theorem sgn_wordF {neg : Bool} {r : Nat} (h : r ≤ 2139095040) : sgnF (single.word neg r) = neg := by
  unfold sgnF
  cases neg
  · have : single.word false r = r := rfl
    rw [this, Nat.div_eq_of_lt (by omega)]
    rfl
  · have : single.word true r = 2147483648 + r := by unfold Format.word; rw [sw32]; rfl
    rw [this, show (2147483648 + r) / 2147483648 = 1 by omega]
    rfl
/-- narrowing a number that lies within a finite bound -/
theorem narrow_ab {x c : Nat} (hx : absD x < 9218868437227405312) (hc : c < 2139095040) {U : Nat} (hU : U = 925) (h : VD (absD x) ≤ VF c * 2 ^ U) : ∃ r, floatToFloatBits .f64 x .f32 = some r ∧ absF r ≤ c ∧ sgnF r = sgnD x ∧ ∀ b, b ≤ 2139095040 → VF b * 2 ^ U ≤ VD (absD x) → b ≤ absF r := by
  obtain ⟨h1, h2, h3⟩ := nearest_wordF (sgnD x) (manD (absD x)) (-1074 + (plcD (absD x) : Int))
  have h4 : single.nearest false (manD (absD x)) (-1074 + (plcD (absD x) : Int)) ≤ c := nearest_leF (S := U) (E := plcD (absD x)) (by omega) h
  refine ⟨single.nearest (sgnD x) (manD (absD x)) (-1074 + (plcD (absD x) : Int)), ?_, ?_, ?_, ?_⟩
  · unfold floatToFloatBits
    rw [if_neg (by decide)]
    have hr : FloatKind.f64.decode x = .number (sgnD x) (manD (absD x)) (-1074 + (plcD (absD x) : Int)) := readD hx
    rw [hr]
    have hi : (FloatKind.f32.decode (FloatKind.f32.encode (.number (sgnD x) (manD (absD x)) (-1074 + (plcD (absD x) : Int))))).isInfinity = false := by
      show (single.read (single.nearest (sgnD x) (manD (absD x)) (-1074 + (plcD (absD x) : Int)))).isInfinity = false
      rw [h2]
      exact read_rung single _ _ (by rw [ir32]; omega)
    simp only
    rw [hi]
    rfl
  · rw [h1]; exact h4
  · rw [h2]; exact sgn_wordF h3
  · intro b hb hv
    rw [h1]
    exact nearest_geF (S := U) (E := plcD (absD x)) hb (by omega) hv
/-- the opposite word -/
def oppD (y : Nat) : Nat := if sgnD y then absD y else absD y + 9223372036854775808
theorem opp_parts (y : Nat) : absD (oppD y) = absD y ∧ sgnD (oppD y) = !sgnD y := by
  have h : absD y < 9223372036854775808 := Nat.mod_lt _ (by decide)
  unfold oppD
  obtain ⟨a, ha⟩ : ∃ a, absD y = a := ⟨_, rfl⟩
  rw [ha] at h ⊢
  cases hs : sgnD y
  · refine ⟨?_, ?_⟩
    · unfold absD; simp; omega
    · unfold sgnD; simp; omega
  · refine ⟨?_, ?_⟩
    · unfold absD; simp; omega
    · unfold sgnD; simp; omega
/-- widening: the number stays the number -/
theorem widen_is {x : Nat} (hx : absF x < 2139095040) {U : Nat} (hU : U = 925) : ∃ r, floatToFloatBits .f32 x .f64 = some r ∧ sgnD r = sgnF x ∧ absD r < 9218868437227405312 ∧ (∀ b, VF (absF x) * 2 ^ U ≤ VD b → absD r ≤ b) ∧ (∀ b, b ≤ 9218868437227405312 → VD b ≤ VF (absF x) * 2 ^ U → b ≤ absD r) := by
  obtain ⟨h1, h2, h3⟩ := nearest_word (sgnF x) (manF (absF x)) (-149 + (plcF (absF x) : Int))
  have hp : plcF (absF x) ≤ 253 := by unfold plcF; omega
  have hfin : (double.read (double.nearest (sgnF x) (manF (absF x)) (-149 + (plcF (absF x) : Int)))).isInfinity = false := wide_finite _ _ _ (manF_lt _) (by omega)
  refine ⟨double.nearest (sgnF x) (manF (absF x)) (-149 + (plcF (absF x) : Int)), ?_, ?_, ?_, ?_, ?_⟩
  · unfold floatToFloatBits
    rw [if_neg (by decide)]
    have hr : FloatKind.f32.decode x = .number (sgnF x) (manF (absF x)) (-149 + (plcF (absF x) : Int)) := readF hx
    rw [hr]
    have hi : (FloatKind.f64.decode (FloatKind.f64.encode (.number (sgnF x) (manF (absF x)) (-149 + (plcF (absF x) : Int))))).isInfinity = false := hfin
    simp only
    rw [hi]
    rfl
  · rw [h2]; exact sgn_word h3
  · rw [h1]
    refine Nat.lt_of_le_of_ne h3 (fun he => ?_)
    rw [h2, he] at hfin
    revert hfin
    cases sgnF x <;> decide
  · intro b hv
    rw [h1]
    refine nearest_le (S := 0) (E := U + plcF (absF x)) (by omega) ?_
    rw [Nat.pow_zero, Nat.mul_one, Nat.pow_add, Nat.mul_comm (2 ^ U), ← Nat.mul_assoc]
    exact hv
  · intro b hb hv
    rw [h1]
    refine nearest_ge (S := 0) (E := U + plcF (absF x)) hb (by omega) ?_
    rw [Nat.pow_zero, Nat.mul_one, Nat.pow_add, Nat.mul_comm (2 ^ U), ← Nat.mul_assoc]
    exact hv
/-- a difference is the sum with the opposite -/
theorem sub_opp {x y : Nat} (hy : absD y < 9218868437227405312) : floatBits .sub .f64 x y = floatBits .add .f64 x (oppD y) := by
  obtain ⟨o1, o2⟩ := opp_parts y
  have hr := readD hy
  have ho := readD (x := oppD y) (by rw [o1]; exact hy)
  rw [o1, o2] at ho
  show (((double.read x).sum (double.read y).opposite).map double.write) = (((double.read x).sum (double.read (oppD y))).map double.write)
  rw [hr, ho]
  rfl

end Go.Proofs.Ytopeidmafalklaa

namespace Go.Proofs.Ytopeidmafalklaa
open Ieee Go.RowKit

theorem bits_lt {op : BinOp} {x y r : Nat} (h : floatBits op .f64 x y = some r) : r < 18446744073709551616 := by
  have hw := floatBits_wf h
  simp [Lit.wf] at hw
  exact hw
theorem abs_pos {r : Nat} (h : r < 18446744073709551616) (hs : sgnD r = false) : absD r = r := by
  unfold sgnD at hs
  unfold absD
  have : r / 9223372036854775808 % 2 ≠ 1 := fun e => by rw [e] at hs; exact absurd hs (by decide)
  omega
theorem abs_of {r : Nat} (h : r ≤ 9218868437227405312) : absD r = r ∧ sgnD r = false := by
  unfold absD sgnD
  rw [Nat.mod_eq_of_lt (by omega), Nat.div_eq_of_lt (by omega)]
  exact ⟨rfl, rfl⟩
theorem VD_nought : VD 0 = 0 := by decide
/-- one step of the row: 1 + t*p/k -/
theorem exp_step {t p k : Nat} (ht : absD t ≤ 4607182418800017408) (hs : sgnD t = true) (hp : p ≤ 4607182418800017408) (hk : 4607182418800017408 ≤ k) (hki : k < 9218868437227405312) :
    ∃ a b r, floatBits .mul .f64 t p = some a ∧ floatBits .quo .f64 a k = some b ∧ floatBits .add .f64 4607182418800017408 b = some r ∧ r ≤ 4607182418800017408 := by
  obtain ⟨U, hU⟩ : ∃ U, U = 1074 := ⟨_, rfl⟩
  have h1 := VD_one hU
  obtain ⟨p1, p2⟩ := abs_of (r := p) (by omega)
  obtain ⟨k1, k2⟩ := abs_of (r := k) (by omega)
  obtain ⟨o1, o2⟩ := abs_of (r := 4607182418800017408) (by omega)
  have vt := VD_mono ht (by decide)
  have vp := VD_mono hp (by decide)
  have vk := VD_mono hk (by omega)
  obtain ⟨a, ha, ha1, ha2⟩ := mul_ab (x := t) (y := p) (c := 4607182418800017408) (by omega) (by rw [p1]; omega) hU (by rw [p1, ← h1]; exact Nat.mul_le_mul vt vp)
  rw [hs, p2] at ha2
  have va := VD_mono ha1 (by decide)
  have hm0 : manD k ≠ 0 := by
    intro h0
    have : VD k = 0 := by unfold VD; rw [h0, Nat.zero_mul]
    have := Nat.two_pow_pos U
    omega
  obtain ⟨b, hb, hb1, hb2⟩ := quo_one (x := a) (y := k) (by omega) (by rw [k1]; exact hki) (by rw [k1]; exact hm0) (by rw [k1]; omega)
  rw [ha2, k2] at hb2
  have vb := VD_mono hb1 (by decide)
  obtain ⟨r, hr, _, hr2⟩ := add_pos (x := 4607182418800017408) (y := b) (c := 0) (e := 4607182418800017408) (T := VD 4607182418800017408 - VD (absD b)) (by decide) (by omega) (by
    unfold totD
    rw [o1, o2, hb2]
    simp
    omega) (by intro _; rw [o2]; rfl) (by rw [VD_nought]; omega) (by omega) (by omega)
  exact ⟨a, b, r, ha, hb, hr, hr2⟩
/-- a square -/
theorem sq_step {p : Nat} (hp : p ≤ 4607182418800017408) : ∃ r, floatBits .mul .f64 p p = some r ∧ r ≤ 4607182418800017408 := by
  obtain ⟨U, hU⟩ : ∃ U, U = 1074 := ⟨_, rfl⟩
  have h1 := VD_one hU
  obtain ⟨p1, p2⟩ := abs_of (r := p) (by omega)
  have vp := VD_mono hp (by decide)
  obtain ⟨a, ha, ha1, ha2⟩ := mul_ab (x := p) (y := p) (c := 4607182418800017408) (by rw [p1]; omega) (by rw [p1]; omega) hU (by rw [p1, ← h1]; exact Nat.mul_le_mul vp vp)
  rw [p2] at ha2
  exact ⟨a, ha, by rw [← abs_pos (bits_lt ha) ha2]; exact ha1⟩
theorem VF_one {U V : Nat} (hU : U = 925) (hV : V = 1074) : VF 1065353216 * 2 ^ U = 2 ^ V := by
  have h1 : manF 1065353216 = 2 ^ 23 := by decide
  have h2 : plcF 1065353216 = 126 := by decide
  unfold VF
  rw [h1, h2, ← Nat.pow_add, ← Nat.pow_add]
  congr 1
  omega
/-- the result, narrowed -/
theorem exp_narrow {p : Nat} (hp : p ≤ 4607182418800017408) : ∃ r, floatToFloatBits .f64 p .f32 = some r ∧ r ≤ 1065353216 := by
  obtain ⟨U, hU⟩ : ∃ U, U = 925 := ⟨_, rfl⟩
  obtain ⟨V, hV⟩ : ∃ V, V = 1074 := ⟨_, rfl⟩
  obtain ⟨p1, p2⟩ := abs_of (r := p) (by omega)
  obtain ⟨r, hr, hr1, hr2, _⟩ := narrow_ab (x := p) (c := 1065353216) (by rw [p1]; omega) (by decide) hU (by rw [p1, VF_one hU hV, ← VD_one hV]; exact VD_mono hp (by decide))
  refine ⟨r, hr, ?_⟩
  have hw := floatToFloatBits_wf (src := .f64) (dst := .f32) (bits := p) (r := r) (by simp [Lit.wf]; omega) hr
  simp [Lit.wf] at hw
  unfold sgnF at hr2
  rw [p2] at hr2
  unfold absF at hr1
  have : r / 2147483648 % 2 ≠ 1 := fun e => by rw [e] at hr2; exact absurd hr2 (by decide)
  have hw' : r < 4294967296 := hw
  omega

end Go.Proofs.Ytopeidmafalklaa

namespace Go.Proofs.Ytopeidmafalklaa
open Ieee Go.RowKit

/-- the exact sum of two numbers, in units of 2 to the power of -149 -/
def totF (x y : Nat) : Int := (if sgnF x then -(VF (absF x) : Int) else VF (absF x)) + (if sgnF y then -(VF (absF y) : Int) else VF (absF y))
theorem sum_partsF {x y : Nat} (hx : absF x < 2139095040) (hy : absF y < 2139095040) : ∃ (neg : Bool) (mag b : Nat), floatBits .add .f32 x y = some (single.nearest neg mag (-149 + (b : Int))) ∧ ((mag * 2 ^ b : Nat) : Int) = (totF x y).natAbs ∧ (0 < totF x y → neg = false) ∧ (totF x y < 0 → neg = true) ∧ (totF x y = 0 → neg = (sgnF x && sgnF y)) := by
  obtain ⟨m, hm⟩ : ∃ m, manF (absF x) = m := ⟨_, rfl⟩
  obtain ⟨n, hn⟩ : ∃ n, manF (absF y) = n := ⟨_, rfl⟩
  obtain ⟨px, hpx⟩ : ∃ p, plcF (absF x) = p := ⟨_, rfl⟩
  obtain ⟨py, hpy⟩ : ∃ p, plcF (absF y) = p := ⟨_, rfl⟩
  have rx := readF hx
  have ry := readF hy
  rw [hm, hpx] at rx
  rw [hn, hpy] at ry
  obtain ⟨b, hb⟩ : ∃ b, min px py = b := ⟨_, rfl⟩
  have hbase : min (-149 + (px : Int)) (-149 + (py : Int)) = -149 + (b : Int) := by omega
  obtain ⟨tot, htot⟩ : ∃ t, signed (sgnF x) m (px - b) + signed (sgnF y) n (py - b) = t := ⟨_, rfl⟩
  have hpos : (0 : Int) < ((2 ^ b : Nat) : Int) := by have := Nat.two_pow_pos b; omega
  have hT : totF x y = tot * (2 ^ b : Nat) := by
    rw [← htot, Int.add_mul, signed_val, signed_val, show px - b + b = px by omega, show py - b + b = py by omega]
    unfold totF VF
    rw [hm, hn, hpx, hpy]
  refine ⟨if tot = 0 then sgnF x && sgnF y else decide (tot < 0), tot.natAbs, b, ?_, ?_, ?_, ?_, ?_⟩
  · show (((single.read x).sum (single.read y)).map single.write) = _
    rw [rx, ry]
    unfold Datum.sum
    simp only [hbase]
    rw [show (-149 + (px : Int) - (-149 + (b : Int))).toNat = px - b by omega, show (-149 + (py : Int) - (-149 + (b : Int))).toNat = py - b by omega, htot]
    rfl
  · rw [hT, Int.natAbs_mul]
    simp
  · intro h
    rw [hT] at h
    have h0 : 0 < tot := by
      rcases Int.lt_trichotomy tot 0 with h1 | h1 | h1
      · have := Int.mul_neg_of_neg_of_pos h1 hpos; omega
      · rw [h1] at h; simp at h
      · exact h1
    rw [if_neg (by omega), decide_eq_false (by omega)]
  · intro h
    rw [hT] at h
    have h0 : tot < 0 := by
      rcases Int.lt_trichotomy tot 0 with h1 | h1 | h1
      · exact h1
      · rw [h1] at h; simp at h
      · have := Int.mul_pos h1 hpos; omega
    rw [if_neg (by omega), decide_eq_true h0]
  · intro h
    rw [hT] at h
    have h0 : tot = 0 := by
      rcases Int.lt_trichotomy tot 0 with h1 | h1 | h1
      · have := Int.mul_neg_of_neg_of_pos h1 hpos; omega
      · exact h1
      · have := Int.mul_pos h1 hpos; omega
    rw [if_pos h0]
/-- a sum's bound -/
theorem add_abF {x y c : Nat} (hx : absF x < 2139095040) (hy : absF y < 2139095040) (h : VF (absF x) + VF (absF y) ≤ VF c) : ∃ r, floatBits .add .f32 x y = some r ∧ absF r ≤ c := by
  obtain ⟨neg, mag, b, h1, h2, _, _, _⟩ := sum_partsF hx hy
  refine ⟨_, h1, ?_⟩
  obtain ⟨w1, _, _⟩ := nearest_wordF neg mag (-149 + (b : Int))
  rw [w1]
  refine nearest_leF (S := 0) (E := b) (by omega) ?_
  have h3 : (totF x y).natAbs ≤ VF (absF x) + VF (absF y) := by
    unfold totF
    split <;> split <;> omega
  rw [Nat.pow_zero, Nat.mul_one]
  omega
/-- a sum that is not negative, from both sides -/
theorem add_posF {x y c e T : Nat} (hx : absF x < 2139095040) (hy : absF y < 2139095040) (hT : totF x y = (T : Int)) (hz : T = 0 → (sgnF x && sgnF y) = false) (hc : VF c ≤ T) (hci : c ≤ 2139095040) (he : T ≤ VF e) : ∃ r, floatBits .add .f32 x y = some r ∧ c ≤ r ∧ r ≤ e := by
  obtain ⟨neg, mag, b, h1, h2, h3, h4, h5⟩ := sum_partsF hx hy
  have hn : neg = false := by
    by_cases h0 : T = 0
    · rw [h5 (by omega)]; exact hz h0
    · exact h3 (by omega)
  subst hn
  have hm : mag * 2 ^ b = T := by omega
  refine ⟨_, h1, nearest_geF (S := 0) (E := b) hci (by omega) (by rw [Nat.pow_zero, Nat.mul_one]; omega), nearest_leF (S := 0) (E := b) (by omega) (by rw [Nat.pow_zero, Nat.mul_one]; omega)⟩

end Go.Proofs.Ytopeidmafalklaa

namespace Go.Proofs.Ytopeidmafalklaa
open Ieee Go.RowKit

/-- the word of 2 to the power of n -/
def W2 (n : Nat) : Nat := 4607182418800017408 + n * 4503599627370496
theorem VD_W2 {U n : Nat} (hU : U = 1074) : VD (W2 n) = 2 ^ (U + n) := by
  have h1 : manD (W2 n) = 2 ^ 52 := by
    unfold manD W2
    rw [if_neg (by omega), show (2 : Nat) ^ 52 = 4503599627370496 by decide]
    omega
  obtain ⟨V, hV⟩ : ∃ V, V = 1022 := ⟨_, rfl⟩
  have h2 : plcD (W2 n) = V + n := by unfold plcD W2; omega
  unfold VD
  rw [h1, h2, ← Nat.pow_add]
  congr 1
  omega
theorem W2_mono {a b : Nat} (h : a ≤ b) : W2 a ≤ W2 b := by unfold W2; omega
theorem W2_fin {n : Nat} (h : n ≤ 1000) : W2 n < 9218868437227405312 := by unfold W2; omega
/-- one step of the row: i + u*q -/
theorem log_step {u q i n : Nat} (hn : n ≤ 100) (hu : u ≤ 4607182418800017408) (hi : i ≤ 4607182418800017408) (hq : q ≤ W2 n) :
    ∃ a r, floatBits .mul .f64 u q = some a ∧ floatBits .add .f64 i a = some r ∧ r ≤ W2 (n + 1) := by
  obtain ⟨U, hU⟩ : ∃ U, U = 1074 := ⟨_, rfl⟩
  have h1 := VD_one hU
  have f1 := W2_fin (n := n) (by omega)
  have f2 := W2_fin (n := n + 1) (by omega)
  obtain ⟨q1, q2⟩ := abs_of (r := q) (by omega)
  obtain ⟨u1, u2⟩ := abs_of (r := u) (by omega)
  obtain ⟨i1, i2⟩ := abs_of (r := i) (by omega)
  have vu := VD_mono hu (by decide)
  have vi := VD_mono hi (by decide)
  have vq := VD_mono hq (by omega)
  obtain ⟨a, ha, ha1, ha2⟩ := mul_ab (x := u) (y := q) (c := W2 n) (by omega) (by omega) hU (by
    rw [u1, q1, Nat.mul_comm, ← h1]; exact Nat.mul_le_mul vq vu)
  rw [u2, q2] at ha2
  have va := VD_mono ha1 (by omega)
  have haa := abs_pos (bits_lt ha) ha2
  obtain ⟨r, hr, _, hr2⟩ := add_pos (x := i) (y := a) (c := 0) (e := W2 (n + 1)) (T := VD i + VD (absD a)) (by omega) (by omega) (by
    unfold totD
    rw [i1, i2, ha2]
    simp) (by intro _; rw [i2]; rfl) (by rw [VD_nought]; omega) (by omega) (by
    rw [VD_W2 hU, ← Nat.add_assoc, Nat.pow_succ]
    rw [VD_W2 hU] at va
    rw [h1] at vi
    have : 2 ^ U ≤ 2 ^ (U + n) := Nat.pow_le_pow_right (by decide) (by omega)
    omega)
  exact ⟨a, r, ha, hr, hr2⟩
/-- the quotient (y-1)/(y+1) for y from nought to two, and its square -/
theorem log_quo {y : Nat} (hy : y ≤ W2 1) :
    ∃ a b s u, floatBits .sub .f64 y 4607182418800017408 = some a ∧ floatBits .add .f64 y 4607182418800017408 = some b ∧ floatBits .quo .f64 a b = some s ∧ absD s ≤ 4607182418800017408 ∧ floatBits .mul .f64 s s = some u ∧ u ≤ 4607182418800017408 := by
  obtain ⟨U, hU⟩ : ∃ U, U = 1074 := ⟨_, rfl⟩
  have h1 := VD_one hU
  have f1 := W2_fin (n := 1) (by decide)
  have f2 := W2_fin (n := 2) (by decide)
  obtain ⟨y1, y2⟩ := abs_of (r := y) (by omega)
  obtain ⟨o1, o2⟩ := abs_of (r := 4607182418800017408) (by decide)
  obtain ⟨p1, p2⟩ := opp_parts 4607182418800017408
  rw [o1] at p1
  rw [o2] at p2
  have vy := VD_mono hy (by omega)
  rw [VD_W2 hU, Nat.pow_succ] at vy
  obtain ⟨neg, mag, k, ea, e2, _, _, _⟩ := sum_parts (x := y) (y := oppD 4607182418800017408) (by omega) (by rw [p1]; decide)
  have htot : totD y (oppD 4607182418800017408) = (VD y : Int) - (VD 4607182418800017408 : Int) := by
    unfold totD
    rw [y1, y2, p1, p2]
    simp
    omega
  obtain ⟨w1, _, _⟩ := nearest_word neg mag (-1074 + (k : Int))
  have ha1 : absD (double.nearest neg mag (-1074 + (k : Int))) ≤ 4607182418800017408 := by
    rw [w1]
    refine nearest_le (S := 0) (E := k) (by omega) ?_
    rw [Nat.pow_zero, Nat.mul_one]
    omega
  have ha : floatBits .sub .f64 y 4607182418800017408 = some (double.nearest neg mag (-1074 + (k : Int))) := by
    rw [sub_opp (by decide)]; exact ea
  obtain ⟨a, hae⟩ : ∃ a, double.nearest neg mag (-1074 + (k : Int)) = a := ⟨_, rfl⟩
  rw [hae] at ha ha1
  have va := VD_mono ha1 (by decide)
  obtain ⟨b, hb, hb1, hb2⟩ := add_pos (x := y) (y := 4607182418800017408) (c := 4607182418800017408) (e := W2 2) (T := VD y + VD 4607182418800017408) (by omega) (by decide) (by
    unfold totD
    rw [y1, y2, o1, o2]
    simp) (by intro _; rw [y2]; rfl) (by omega) (by decide) (by
    rw [VD_W2 hU, show U + 2 = U + 1 + 1 by omega, Nat.pow_succ, Nat.pow_succ]
    omega)
  obtain ⟨b1, b2⟩ := abs_of (r := b) (by omega)
  have vb := VD_mono hb1 (by omega)
  have hm0 : manD b ≠ 0 := by
    intro h0
    have : VD b = 0 := by unfold VD; rw [h0, Nat.zero_mul]
    have := Nat.two_pow_pos U
    omega
  obtain ⟨s, hs, hs1, hs2⟩ := quo_one (x := a) (y := b) (by omega) (by omega) (by rw [b1]; exact hm0) (by rw [b1]; omega)
  have vs := VD_mono hs1 (by decide)
  obtain ⟨u, hu, hu1, hu2⟩ := mul_ab (x := s) (y := s) (c := 4607182418800017408) (by omega) (by omega) hU (by rw [← h1]; exact Nat.mul_le_mul vs vs)
  rw [show (sgnD s ^^ sgnD s) = false by cases sgnD s <;> rfl] at hu2
  exact ⟨a, b, s, u, ha, hb, hs, hs1, hu, by rw [← abs_pos (bits_lt hu) hu2]; exact hu1⟩

end Go.Proofs.Ytopeidmafalklaa

namespace Go.Proofs.Ytopeidmafalklaa
open Ieee Go.RowKit

theorem VF_W2 {U V : Nat} (n : Nat) (hU : U = 925) (hV : V = 1074) : VF (1065353216 + n * 8388608) * 2 ^ U = 2 ^ (V + n) := by
  have h1 : manF (1065353216 + n * 8388608) = 2 ^ 23 := by
    unfold manF
    rw [if_neg (by omega), show (2 : Nat) ^ 23 = 8388608 by decide]
    omega
  have h2 : plcF (1065353216 + n * 8388608) = 126 + n := by unfold plcF; omega
  unfold VF
  rw [h1, h2, ← Nat.pow_add, ← Nat.pow_add]
  congr 1
  omega
theorem mul_bd {x y a b : Nat} (ha : a + b ≤ 1000) (hx : absD x ≤ W2 a) (hy : absD y ≤ W2 b) : ∃ r, floatBits .mul .f64 x y = some r ∧ absD r ≤ W2 (a + b) ∧ sgnD r = (sgnD x ^^ sgnD y) := by
  obtain ⟨U, hU⟩ : ∃ U, U = 1074 := ⟨_, rfl⟩
  have f1 := W2_fin (n := a) (by omega)
  have f2 := W2_fin (n := b) (by omega)
  have f3 := W2_fin (n := a + b) ha
  have vx := VD_mono hx (by omega)
  have vy := VD_mono hy (by omega)
  refine mul_ab (by omega) (by omega) hU ?_
  refine Nat.le_trans (Nat.mul_le_mul vx vy) (Nat.le_of_eq ?_)
  rw [VD_W2 hU, VD_W2 hU, VD_W2 hU, ← Nat.pow_add, ← Nat.pow_add]
  congr 1
  omega
/-- 2*(s*q) + e*c -/
theorem log_end {s q e : Nat} (hs : absD s ≤ 4607182418800017408) (hq : q ≤ W2 13) (he : e ≤ 4607182418800017408) :
    ∃ a b c d r, floatBits .mul .f64 s q = some a ∧ floatBits .mul .f64 4611686018427387904 a = some b ∧ floatBits .mul .f64 e 4604418534313441775 = some c ∧ floatBits .add .f64 b c = some d ∧ absD d ≤ W2 15 ∧ floatToFloatBits .f64 d .f32 = some r ∧ absF r ≤ 1191182336 := by
  obtain ⟨U, hU⟩ : ∃ U, U = 1074 := ⟨_, rfl⟩
  obtain ⟨V, hV⟩ : ∃ V, V = 925 := ⟨_, rfl⟩
  have f13 := W2_fin (n := 13) (by decide)
  have f14 := W2_fin (n := 14) (by decide)
  have f15 := W2_fin (n := 15) (by decide)
  obtain ⟨q1, _⟩ := abs_of (r := q) (by omega)
  obtain ⟨e1, _⟩ := abs_of (r := e) (by omega)
  have w0 : (4607182418800017408 : Nat) = W2 0 := by decide
  have w1 : absD 4611686018427387904 ≤ W2 1 := by decide
  have wc : absD 4604418534313441775 ≤ W2 0 := by decide
  obtain ⟨a, ha, ha1, _⟩ := mul_bd (x := s) (y := q) (a := 0) (b := 13) (by decide) (by rw [← w0]; exact hs) (by rw [q1]; exact hq)
  obtain ⟨b, hb, hb1, _⟩ := mul_bd (x := 4611686018427387904) (y := a) (a := 1) (b := 13) (by decide) w1 ha1
  obtain ⟨c, hc, hc1, _⟩ := mul_bd (x := e) (y := 4604418534313441775) (a := 0) (b := 0) (by decide) (by rw [e1, ← w0]; exact he) wc
  have vb := VD_mono hb1 (by decide)
  have vc := VD_mono hc1 (by decide)
  rw [VD_W2 hU] at vb vc
  obtain ⟨d, hd, hd1⟩ := add_ab (x := b) (y := c) (c := W2 15) (Nat.lt_of_le_of_lt hb1 (by decide)) (Nat.lt_of_le_of_lt hc1 (by decide)) (by
    rw [VD_W2 hU, Nat.pow_succ 2 (U + 14)]
    have : 2 ^ (U + (0 + 0)) ≤ 2 ^ (U + 14) := Nat.pow_le_pow_right (by decide) (by omega)
    have h14 : 2 ^ (U + (1 + 13)) = 2 ^ (U + 14) := rfl
    omega)
  obtain ⟨r, hr, hr1, _⟩ := narrow_ab (x := d) (c := 1191182336) (by omega) (by decide) hV (by
    have h := VF_W2 15 hV hU
    rw [show 1065353216 + 15 * 8388608 = 1191182336 by decide] at h
    rw [h, ← VD_W2 hU]
    exact VD_mono hd1 (by omega))
  exact ⟨a, b, c, d, r, ha, hb, hc, hd, hd1, hr, hr1⟩
/-- widening a number from one to two -/
theorem widen_12 {z : Nat} (h1 : 1065353216 ≤ z) (h2 : z ≤ 1073741824) : ∃ r, floatToFloatBits .f32 z .f64 = some r ∧ 4607182418800017408 ≤ r ∧ r ≤ 4611686018427387904 := by
  obtain ⟨U, hU⟩ : ∃ U, U = 1074 := ⟨_, rfl⟩
  obtain ⟨V, hV⟩ : ∃ V, V = 925 := ⟨_, rfl⟩
  have za : absF z = z := by unfold absF; omega
  have zs : sgnF z = false := by unfold sgnF; rw [Nat.div_eq_of_lt (by omega)]; rfl
  obtain ⟨r, hr, hs, hf, hle, hge⟩ := widen_is (x := z) (by omega) hV
  rw [za] at hle hge
  rw [zs] at hs
  have v0 := VF_W2 0 hV hU
  have v1 := VF_W2 1 hV hU
  have m1 := VF_mono h1 (by omega)
  have m2 := VF_mono h2 (by decide)
  have hl := hle (W2 1) (by
    rw [VD_W2 hU, ← v1]
    exact Nat.mul_le_mul_right _ (by rw [show 1065353216 + 1 * 8388608 = 1073741824 by decide]; exact m2))
  have hg := hge (W2 0) (by decide) (by
    rw [VD_W2 hU, ← v0]
    exact Nat.mul_le_mul_right _ (by rw [show 1065353216 + 0 * 8388608 = 1065353216 by decide]; exact m1))
  have hb := floatToFloatBits_wf (src := .f32) (dst := .f64) (bits := z) (r := r) (by simp [Lit.wf]; omega) hr
  simp [Lit.wf] at hb
  have hra := abs_pos (r := r) hb hs
  rw [hra] at hl hg
  refine ⟨r, hr, ?_, ?_⟩
  · have : W2 0 = 4607182418800017408 := by decide
    omega
  · have : W2 1 = 4611686018427387904 := by decide
    omega
/-- narrowed numbers from nought to one, one added -/
theorem add_one_12 {e : Nat} (he : e ≤ 1065353216) : ∃ z, floatBits .add .f32 1065353216 e = some z ∧ 1065353216 ≤ z ∧ z ≤ 1073741824 := by
  have ea : absF e = e := by unfold absF; omega
  have es : sgnF e = false := by unfold sgnF; rw [Nat.div_eq_of_lt (by omega)]; rfl
  have o1 : absF 1065353216 = 1065353216 := by decide
  have o2 : sgnF 1065353216 = false := by decide
  have m2 := VF_mono he (by decide)
  have h2 : VF 1073741824 = 2 * VF 1065353216 := by
    unfold VF
    rw [show manF 1073741824 = 8388608 by decide, show manF 1065353216 = 8388608 by decide, show plcF 1073741824 = 127 by decide, show plcF 1065353216 = 126 by decide]
  exact add_posF (x := 1065353216) (y := e) (T := VF 1065353216 + VF e) (by decide) (by omega) (by
    unfold totF
    rw [o1, o2, ea, es]
    simp) (by intro _; rw [o2]; rfl) (by omega) (by decide) (by omega)

end Go.Proofs.Ytopeidmafalklaa

namespace Go.Proofs.Ytopeidmafalklaa
open Ieee Go.RowKit

/-- the words of 12, 11, .. 1 -/
def expKs : List Nat := [4622945017495814144, 4622382067542392832, 4621819117588971520, 4621256167635550208, 4620693217682128896, 4619567317775286272, 4618441417868443648, 4617315517961601024, 4616189618054758400, 4613937818241073152, 4611686018427387904, 4607182418800017408]
/-- the words of 25, 23, .. 1 -/
def logKs : List Nat := [4627730092099895296, 4627167142146473984, 4626604192193052672, 4626041242239631360, 4625478292286210048, 4624633867356078080, 4623507967449235456, 4622382067542392832, 4621256167635550208, 4619567317775286272, 4617315517961601024, 4613937818241073152, 4607182418800017408]
def expRow (t : Nat) : List Nat → Nat → Option Nat
  | [], p => some p
  | k :: ks, p => (floatBits .mul .f64 t p).bind fun a => (floatBits .quo .f64 a k).bind fun b => (floatBits .add .f64 4607182418800017408 b).bind fun r => expRow t ks r
def sqRow : Nat → Nat → Option Nat
  | 0, p => some p
  | n + 1, p => (floatBits .mul .f64 p p).bind fun r => sqRow n r
def expWide (y : Nat) : Option Nat := (floatBits .quo .f64 y 4643211215818981376).bind fun t => (expRow t expKs 4607182418800017408).bind fun p => sqRow 8 p
theorem expRow_some {t : Nat} (ht : absD t ≤ 4607182418800017408) (hs : sgnD t = true) : ∀ (ks : List Nat) (p : Nat), (∀ k ∈ ks, 4607182418800017408 ≤ k ∧ k < 9218868437227405312) → p ≤ 4607182418800017408 → ∃ r, expRow t ks p = some r ∧ r ≤ 4607182418800017408
  | [], p, _, hp => ⟨p, rfl, hp⟩
  | k :: ks, p, hk, hp => by
    obtain ⟨k1, k2⟩ := hk k (List.mem_cons_self ..)
    obtain ⟨a, b, r, ha, hb, hr, hr1⟩ := exp_step ht hs hp k1 k2
    obtain ⟨z, hz, hz1⟩ := expRow_some ht hs ks r (fun k h => hk k (List.mem_cons_of_mem _ h)) hr1
    refine ⟨z, ?_, hz1⟩
    unfold expRow
    rw [ha]; simp only [Option.bind_some]
    rw [hb]; simp only [Option.bind_some]
    rw [hr]; exact hz
theorem sqRow_some : ∀ (n p : Nat), p ≤ 4607182418800017408 → ∃ r, sqRow n p = some r ∧ r ≤ 4607182418800017408
  | 0, p, hp => ⟨p, rfl, hp⟩
  | n + 1, p, hp => by
    obtain ⟨r, hr, hr1⟩ := sq_step hp
    obtain ⟨z, hz, hz1⟩ := sqRow_some n r hr1
    refine ⟨z, ?_, hz1⟩
    unfold sqRow
    rw [hr]; exact hz
theorem expWide_some {y : Nat} (hy : absD y ≤ W2 8) (hs : sgnD y = true) : ∃ r, expWide y = some r ∧ r ≤ 4607182418800017408 := by
  have w8 : W2 8 = 4643211215818981376 := by decide
  obtain ⟨t, ht, ht1, ht2⟩ := quo_one (x := y) (y := 4643211215818981376) (by rw [w8] at hy; omega) (by decide) (by decide) (VD_mono (by rw [show absD 4643211215818981376 = 4643211215818981376 by decide, ← w8]; exact hy) (by decide))
  rw [hs, show sgnD 4643211215818981376 = false by decide] at ht2
  obtain ⟨p, hp, hp1⟩ := expRow_some ht1 ht2 expKs 4607182418800017408 (by decide) (Nat.le_refl _)
  obtain ⟨r, hr, hr1⟩ := sqRow_some 8 p hp1
  refine ⟨r, ?_, hr1⟩
  unfold expWide
  rw [ht]; simp only [Option.bind_some]
  rw [hp]; exact hr

def logRow (u : Nat) : List Nat → Nat → Option Nat
  | [], q => some q
  | k :: ks, q => (floatBits .quo .f64 4607182418800017408 k).bind fun i => (floatBits .mul .f64 u q).bind fun a => (floatBits .add .f64 i a).bind fun r => logRow u ks r
theorem logRow_some {u : Nat} (hu : u ≤ 4607182418800017408) : ∀ (ks : List Nat) (q n : Nat), (∀ k ∈ ks, ∃ i, floatBits .quo .f64 4607182418800017408 k = some i ∧ i ≤ 4607182418800017408) → n + ks.length ≤ 100 → q ≤ W2 n → ∃ r, logRow u ks q = some r ∧ r ≤ W2 (n + ks.length)
  | [], q, n, _, _, hq => ⟨q, rfl, hq⟩
  | k :: ks, q, n, hk, hn, hq => by
    rw [List.length_cons] at hn ⊢
    obtain ⟨i, hi, hi1⟩ := hk k (List.mem_cons_self ..)
    obtain ⟨a, r, ha, hr, hr1⟩ := log_step (n := n) (by omega) hu hi1 hq
    obtain ⟨z, hz, hz1⟩ := logRow_some hu ks r (n + 1) (fun k h => hk k (List.mem_cons_of_mem _ h)) (by omega) hr1
    refine ⟨z, ?_, by rw [show n + (ks.length + 1) = n + 1 + ks.length by omega]; exact hz1⟩
    unfold logRow
    rw [hi]; simp only [Option.bind_some]
    rw [ha]; simp only [Option.bind_some]
    rw [hr]; exact hz
theorem quo_k {k : Nat} (h1 : 4607182418800017408 ≤ k) (h2 : k < 9218868437227405312) : ∃ i, floatBits .quo .f64 4607182418800017408 k = some i ∧ i ≤ 4607182418800017408 := by
  obtain ⟨U, hU⟩ : ∃ U, U = 1074 := ⟨_, rfl⟩
  obtain ⟨k1, k2⟩ := abs_of (r := k) (by omega)
  have vk := VD_mono h1 (by omega)
  have hm0 : manD k ≠ 0 := by
    intro h0
    have h3 : VD k = 0 := by unfold VD; rw [h0, Nat.zero_mul]
    have h4 := Nat.two_pow_pos U
    have h5 := VD_one hU
    omega
  obtain ⟨i, hi, hi1, hi2⟩ := quo_one (x := 4607182418800017408) (y := k) (by decide) (by rw [k1]; exact h2) (by rw [k1]; exact hm0) (by rw [k1]; exact vk)
  rw [k2, show sgnD 4607182418800017408 = false by decide] at hi2
  exact ⟨i, hi, by rw [← abs_pos (bits_lt hi) hi2]; exact hi1⟩

end Go.Proofs.Ytopeidmafalklaa

namespace Go.Proofs.Ytopeidmafalklaa
open Ieee Go.RowKit

def halved (y : Nat) : Nat × Nat := if 4609434218613702656 ≤ y then (y - 4503599627370496, 4607182418800017408) else (y, 0)
def logTail (y e : Nat) : Option Nat :=
  (floatBits .sub .f64 y 4607182418800017408).bind fun a => (floatBits .add .f64 y 4607182418800017408).bind fun b => (floatBits .quo .f64 a b).bind fun s => (floatBits .mul .f64 s s).bind fun u =>
  (logRow u logKs 0).bind fun q => (floatBits .mul .f64 s q).bind fun a => (floatBits .mul .f64 4611686018427387904 a).bind fun b => (floatBits .mul .f64 e 4604418534313441775).bind fun c => floatBits .add .f64 b c
theorem logTail_some {y e : Nat} (hy : y ≤ W2 1) (he : e ≤ 4607182418800017408) : ∃ d r, logTail y e = some d ∧ floatToFloatBits .f64 d .f32 = some r ∧ absF r ≤ 1191182336 := by
  obtain ⟨a, b, s, u, ha, hb, hs, hs1, hu, hu1⟩ := log_quo hy
  have hks : ∀ k ∈ logKs, 4607182418800017408 ≤ k ∧ k < 9218868437227405312 := by decide
  obtain ⟨q, hq, hq1⟩ := logRow_some hu1 logKs 0 0 (fun k hk => quo_k (hks k hk).1 (hks k hk).2) (by decide) (Nat.zero_le _)
  have hlen : 0 + logKs.length = 13 := by decide
  rw [hlen] at hq1
  obtain ⟨m, n, c, d, r, hm, hn, hc, hd, _, hr, hr1⟩ := log_end hs1 hq1 he
  refine ⟨d, r, ?_, hr, hr1⟩
  unfold logTail
  rw [ha]; simp only [Option.bind_some]
  rw [hb]; simp only [Option.bind_some]
  rw [hs]; simp only [Option.bind_some]
  rw [hu]; simp only [Option.bind_some]
  rw [hq]; simp only [Option.bind_some]
  rw [hm]; simp only [Option.bind_some]
  rw [hn]; simp only [Option.bind_some]
  rw [hc]; simp only [Option.bind_some]
  exact hd
/-- the normed number, and that it wants no more steps -/
theorem halved_is {y : Nat} (h1 : 4607182418800017408 ≤ y) (h2 : y ≤ 4611686018427387904) : (halved y).1 ≤ W2 1 ∧ (halved y).2 ≤ 4607182418800017408 ∧ 4604930618986332160 ≤ (halved y).1 ∧ (halved y).1 < 4609434218613702656 := by
  have w : W2 1 = 4611686018427387904 := by decide
  unfold halved
  split
  · refine ⟨?_, ?_, ?_, ?_⟩ <;> simp only <;> omega
  · refine ⟨?_, ?_, ?_, ?_⟩ <;> simp only <;> omega
def logNum (z : Nat) : Option Nat := (floatToFloatBits .f32 z .f64).bind fun y => (logTail (halved y).1 (halved y).2).bind fun d => floatToFloatBits .f64 d .f32
theorem logNum_some {z : Nat} (h1 : 1065353216 ≤ z) (h2 : z ≤ 1073741824) : ∃ r, logNum z = some r ∧ absF r ≤ 1191182336 := by
  obtain ⟨y, hy, hy1, hy2⟩ := widen_12 h1 h2
  obtain ⟨g1, g2, _, _⟩ := halved_is hy1 hy2
  obtain ⟨d, r, hd, hr, hr1⟩ := logTail_some g1 g2
  refine ⟨r, ?_, hr1⟩
  unfold logNum
  rw [hy]; simp only [Option.bind_some]
  rw [hd]; exact hr
theorem expRow_zero : ∀ ks : List Nat, (∀ k ∈ ks, floatBits .quo .f64 0 k = some 0) → expRow 0 ks 4607182418800017408 = some 4607182418800017408
  | [], _ => rfl
  | k :: ks, h => by
    unfold expRow
    rw [show floatBits .mul .f64 0 4607182418800017408 = some 0 by decide]; simp only [Option.bind_some]
    rw [h k (List.mem_cons_self ..)]; simp only [Option.bind_some]
    rw [show floatBits .add .f64 4607182418800017408 0 = some 4607182418800017408 by decide +kernel]
    exact expRow_zero ks (fun k hk => h k (List.mem_cons_of_mem _ hk))
theorem sqRow_one : ∀ n, sqRow n 4607182418800017408 = some 4607182418800017408
  | 0 => rfl
  | n + 1 => by
    unfold sqRow
    rw [show floatBits .mul .f64 4607182418800017408 4607182418800017408 = some 4607182418800017408 by decide]
    exact sqRow_one n
theorem expWide_zero : expWide 0 = some 4607182418800017408 := by
  unfold expWide
  rw [show floatBits .quo .f64 0 4643211215818981376 = some 0 by decide]; simp only [Option.bind_some]
  rw [expRow_zero expKs (by decide)]; simp only [Option.bind_some]
  exact sqRow_one 8
def expNum (d : Nat) : Option Nat := if sgnF d = true ∧ 1128792064 < absF d then some 0 else (floatToFloatBits .f32 d .f64).bind fun y => (expWide y).bind fun p => floatToFloatBits .f64 p .f32
theorem expNum_some {d : Nat} (h : d = 0 ∨ sgnF d = true) : ∃ r, expNum d = some r ∧ r ≤ 1065353216 := by
  unfold expNum
  split
  · exact ⟨0, rfl, Nat.zero_le _⟩
  rename_i hn
  rcases h with h | h
  · subst h
    refine ⟨1065353216, ?_, Nat.le_refl _⟩
    rw [show floatToFloatBits .f32 0 .f64 = some 0 by decide]; simp only [Option.bind_some]
    rw [expWide_zero]; simp only [Option.bind_some]
    decide
  · obtain ⟨U, hU⟩ : ∃ U, U = 1074 := ⟨_, rfl⟩
    obtain ⟨V, hV⟩ : ∃ V, V = 925 := ⟨_, rfl⟩
    have hd : absF d ≤ 1128792064 := by
      by_cases hh : absF d ≤ 1128792064
      · exact hh
      · exact absurd ⟨h, by omega⟩ hn
    obtain ⟨y, hy, hs, hf, hle, _⟩ := widen_is (x := d) (by omega) hV
    have hy1 : absD y ≤ W2 8 := hle (W2 8) (by
      have v8 := VF_W2 8 hV hU
      rw [VD_W2 hU, ← v8]
      exact Nat.mul_le_mul_right _ (VF_mono (by omega) (by decide)))
    obtain ⟨p, hp, hp1⟩ := expWide_some hy1 (by rw [hs]; exact h)
    obtain ⟨r, hr, hr1⟩ := exp_narrow hp1
    refine ⟨r, ?_, hr1⟩
    rw [hy]; simp only [Option.bind_some]
    rw [hp]; exact hr
/-- what the join adds to the greater number -/
def gapNum (d : Nat) : Option Nat := (expNum d).bind fun e => (floatBits .add .f32 1065353216 e).bind fun z => logNum z
theorem gapNum_some {d : Nat} (h : d = 0 ∨ sgnF d = true) : ∃ r, gapNum d = some r ∧ absF r ≤ 1191182336 := by
  obtain ⟨e, he, he1⟩ := expNum_some h
  obtain ⟨z, hz, hz1, hz2⟩ := add_one_12 he1
  obtain ⟨r, hr, hr1⟩ := logNum_some hz1 hz2
  refine ⟨r, ?_, hr1⟩
  unfold gapNum
  rw [he]; simp only [Option.bind_some]
  rw [hz]; exact hr

end Go.Proofs.Ytopeidmafalklaa

namespace Go.Proofs.Ytopeidmafalklaa
open Ieee Go.RowKit

/-- the number's signed value, in units of 2 to the power of -149 -/
def valF (x : Nat) : Int := if sgnF x then -(VF (absF x) : Int) else VF (absF x)
def oppF (y : Nat) : Nat := if sgnF y then absF y else absF y + 2147483648
theorem oppF_parts (y : Nat) : absF (oppF y) = absF y ∧ sgnF (oppF y) = !sgnF y := by
  have h : absF y < 2147483648 := Nat.mod_lt _ (by decide)
  unfold oppF
  obtain ⟨a, ha⟩ : ∃ a, absF y = a := ⟨_, rfl⟩
  rw [ha] at h ⊢
  cases hs : sgnF y
  · refine ⟨?_, ?_⟩
    · unfold absF; simp; omega
    · unfold sgnF; simp; omega
  · refine ⟨?_, ?_⟩
    · unfold absF; simp; omega
    · unfold sgnF; simp; omega
theorem sub_oppF {x y : Nat} (hy : absF y < 2139095040) : floatBits .sub .f32 x y = floatBits .add .f32 x (oppF y) := by
  obtain ⟨o1, o2⟩ := oppF_parts y
  have hr := readF hy
  have ho := readF (x := oppF y) (by rw [o1]; exact hy)
  rw [o1, o2] at ho
  show (((single.read x).sum (single.read y).opposite).map single.write) = (((single.read x).sum (single.read (oppF y))).map single.write)
  rw [hr, ho]
  rfl
theorem gap_fin {lo hi : Nat} (h1 : absF lo < 2139095040) (h2 : absF hi < 2139095040) (h : valF lo ≤ valF hi) : ∃ d, floatBits .sub .f32 lo hi = some d ∧ (d = 0 ∨ sgnF d = true) := by
  obtain ⟨o1, o2⟩ := oppF_parts hi
  obtain ⟨neg, mag, b, e1, e2, e3, e4, e5⟩ := sum_partsF (x := lo) (y := oppF hi) h1 (by rw [o1]; exact h2)
  have htot : totF lo (oppF hi) = valF lo - valF hi := by
    unfold totF valF
    rw [o1, o2]
    cases sgnF hi <;> simp <;> omega
  refine ⟨_, by rw [sub_oppF h2]; exact e1, ?_⟩
  obtain ⟨w1, w2, w3⟩ := nearest_wordF neg mag (-149 + (b : Int))
  cases hn : neg with
  | true => right; rw [hn] at w2; rw [w2]; exact sgn_wordF w3
  | false =>
    left
    have ht0 : totF lo (oppF hi) = 0 := by
      rcases Int.lt_trichotomy (totF lo (oppF hi)) 0 with q | q | q
      · have := e4 q; rw [hn] at this; exact absurd this (by decide)
      · exact q
      · omega
    rw [ht0] at e2
    have hm : mag * 2 ^ b = 0 := by
      have h0 : ((0 : Int).natAbs : Int) = 0 := rfl
      omega
    have hm0 : mag = 0 := by
      rcases Nat.mul_eq_zero.1 hm with q | q
      · exact q
      · have := Nat.two_pow_pos b; omega
    rw [hm0]
    unfold Format.nearest
    rfl
/-- the join of two finite numbers: the greater and what is added to it -/
theorem join_gap {lo hi : Nat} (h1 : absF lo < 2139095040) (h2 : absF hi < 2139095040) (h : valF lo ≤ valF hi) : ∃ d g, floatBits .sub .f32 lo hi = some d ∧ gapNum d = some g ∧ absF g ≤ 1191182336 := by
  obtain ⟨d, hd, hd1⟩ := gap_fin h1 h2 h
  obtain ⟨g, hg, hg1⟩ := gapNum_some hd1
  exact ⟨d, g, hd, hg, hg1⟩

end Go.Proofs.Ytopeidmafalklaa

namespace Go.Proofs.Ytopeidmafalklaa
open Ieee Go.RowKit

theorem cmp_mul (a b c : Int) (hc : 0 < c) : compare a b = compare (a * c) (b * c) := by
  show compareOfLessAndEq a b = compareOfLessAndEq (a * c) (b * c)
  unfold compareOfLessAndEq
  rcases Int.lt_trichotomy a b with h | h | h
  · rw [if_pos h, if_pos (Int.mul_lt_mul_of_pos_right h hc)]
  · subst h
    rw [if_neg (Int.lt_irrefl _), if_neg (Int.lt_irrefl _), if_pos rfl, if_pos rfl]
  · have h2 := Int.mul_lt_mul_of_pos_right h hc
    rw [if_neg (by omega), if_neg (by omega), if_neg (by omega), if_neg (by omega)]
theorem order_valF {x y : Nat} (hx : absF x < 2139095040) (hy : absF y < 2139095040) : single.order x y = some (compare (valF x) (valF y)) := by
  obtain ⟨px, hpx⟩ : ∃ p, plcF (absF x) = p := ⟨_, rfl⟩
  obtain ⟨py, hpy⟩ : ∃ p, plcF (absF y) = p := ⟨_, rfl⟩
  have rx := readF hx
  have ry := readF hy
  rw [hpx] at rx
  rw [hpy] at ry
  obtain ⟨b, hb⟩ : ∃ b, min px py = b := ⟨_, rfl⟩
  have hbase : min (-149 + (px : Int)) (-149 + (py : Int)) = -149 + (b : Int) := by omega
  have hpos : (0 : Int) < ((2 ^ b : Nat) : Int) := by have := Nat.two_pow_pos b; omega
  show (single.read x).order (single.read y) = _
  rw [rx, ry]
  unfold Datum.order
  simp only [hbase]
  rw [show (-149 + (px : Int) - (-149 + (b : Int))).toNat = px - b by omega, show (-149 + (py : Int) - (-149 + (b : Int))).toNat = py - b by omega]
  rw [cmp_mul _ _ _ hpos, signed_val, signed_val, show px - b + b = px by omega, show py - b + b = py by omega]
  unfold valF VF
  rw [hpx, hpy]
/-- the number's signed value, in units of 2 to the power of -1074 -/
def valD (x : Nat) : Int := if sgnD x then -(VD (absD x) : Int) else VD (absD x)
theorem order_valD {x y : Nat} (hx : absD x < 9218868437227405312) (hy : absD y < 9218868437227405312) : double.order x y = some (compare (valD x) (valD y)) := by
  obtain ⟨px, hpx⟩ : ∃ p, plcD (absD x) = p := ⟨_, rfl⟩
  obtain ⟨py, hpy⟩ : ∃ p, plcD (absD y) = p := ⟨_, rfl⟩
  have rx := readD hx
  have ry := readD hy
  rw [hpx] at rx
  rw [hpy] at ry
  obtain ⟨b, hb⟩ : ∃ b, min px py = b := ⟨_, rfl⟩
  have hbase : min (-1074 + (px : Int)) (-1074 + (py : Int)) = -1074 + (b : Int) := by omega
  have hpos : (0 : Int) < ((2 ^ b : Nat) : Int) := by have := Nat.two_pow_pos b; omega
  show (double.read x).order (double.read y) = _
  rw [rx, ry]
  unfold Datum.order
  simp only [hbase]
  rw [show (-1074 + (px : Int) - (-1074 + (b : Int))).toNat = px - b by omega, show (-1074 + (py : Int) - (-1074 + (b : Int))).toNat = py - b by omega]
  rw [cmp_mul _ _ _ hpos, signed_val, signed_val, show px - b + b = px by omega, show py - b + b = py by omega]
  unfold valD VD
  rw [hpx, hpy]

/-- nonnegative words: the order of the words -/
theorem order_wordsD {x y : Nat} (hx : x < 9218868437227405312) (hy : y < 9218868437227405312) : double.order x y = some (compare (x : Int) (y : Int)) := by
  obtain ⟨x1, x2⟩ := abs_of (r := x) (by omega)
  obtain ⟨y1, y2⟩ := abs_of (r := y) (by omega)
  rw [order_valD (by omega) (by omega)]
  unfold valD
  rw [x1, x2, y1, y2]
  congr 1
  show compareOfLessAndEq _ _ = compareOfLessAndEq _ _
  have hlt : ∀ {a b : Nat}, a < b → b < 9218868437227405312 → VD a < VD b := by
    intro a b h1 h2
    have h3 := VD_mono (Nat.le_of_lt h1) (by omega)
    rcases Nat.lt_or_eq_of_le h3 with h4 | h4
    · exact h4
    · exfalso
      have h5 := nearest_ge (mag := manD a) (place := -1074 + (plcD a : Int)) (c := b) (S := 0) (E := plcD a) (by omega) (by omega) (by rw [Nat.pow_zero, Nat.mul_one, ← h4]; exact Nat.le_refl _)
      have h6 := nearest_le (mag := manD a) (place := -1074 + (plcD a : Int)) (c := a) (S := 0) (E := plcD a) (by omega) (by rw [Nat.pow_zero, Nat.mul_one]; exact Nat.le_refl _)
      omega
  unfold compareOfLessAndEq
  rcases Nat.lt_trichotomy x y with h | h | h
  · have := hlt h hy
    rw [if_pos (by simp; omega), if_pos (by omega)]
  · subst h
    simp
  · have := hlt h hx
    rw [if_neg (by simp; omega), if_neg (by simp; omega), if_neg (by omega), if_neg (by omega)]

end Go.Proofs.Ytopeidmafalklaa

namespace Go.Proofs.Ytopeidmafalklaa
open Ieee Go.RowKit

theorem cmp_cases (a b : Int) : compare a b = if a < b then .lt else if a = b then .eq else .gt := rfl
theorem cmp_ltB (a b : Int) : (some (compare a b) == some Ordering.lt) = decide (a < b) := by
  rw [cmp_cases]
  by_cases h : a < b
  · rw [if_pos h, decide_eq_true h]; rfl
  · rw [if_neg h, decide_eq_false h]
    split <;> rfl
theorem cmp_gtB (a b : Int) : (some (compare a b) == some Ordering.gt) = decide (b < a) := by
  rw [cmp_cases]
  by_cases h : a < b
  · rw [if_pos h, decide_eq_false (by omega)]; rfl
  · rw [if_neg h]
    by_cases h2 : a = b
    · rw [if_pos h2, decide_eq_false (by omega)]; rfl
    · rw [if_neg h2, decide_eq_true (by omega)]; rfl
theorem cmp_geB (a b : Int) : (some (compare a b) == some Ordering.gt || some (compare a b) == some Ordering.eq) = decide (b ≤ a) := by
  rw [cmp_cases]
  by_cases h : a < b
  · rw [if_pos h, decide_eq_false (by omega)]; rfl
  · rw [if_neg h, decide_eq_true (by omega)]
    split <;> rfl
/-- the halving loop's test -/
theorem half_test {y : Nat} (h : y < 9218868437227405312) : (double.order y 4609434218613702656 == some Ordering.gt || double.order y 4609434218613702656 == some Ordering.eq) = decide (4609434218613702656 ≤ y) := by
  rw [order_wordsD h (by decide), cmp_geB]
  by_cases h2 : 4609434218613702656 ≤ y
  · rw [decide_eq_true h2, decide_eq_true (by omega)]
  · rw [decide_eq_false h2, decide_eq_false (by omega)]
/-- the doubling loop's test -/
theorem low_test {y : Nat} (h1 : 4604930618986332160 ≤ y) (h : y < 9218868437227405312) : (double.order y 4604930618986332160 == some Ordering.lt) = false := by
  rw [order_wordsD h (by decide), cmp_ltB, decide_eq_false (by omega)]
/-- the halving step -/
theorem half_step {y : Nat} (h1 : 4609434218613702656 ≤ y) (h : y < 9218868437227405312) : floatBits .quo .f64 y 4611686018427387904 = some (y - 4503599627370496) := half_norm ⟨by omega, h⟩ (by omega)
/-- the gap's tests, single precision: above 200 never, below -200 as expNum says -/
theorem gap_high {d : Nat} (hf : absF d < 2139095040) (h : d = 0 ∨ sgnF d = true) : (single.order d 1128792064 == some Ordering.gt) = false := by
  rw [order_valF hf (by decide), cmp_gtB]
  apply decide_eq_false
  have e : valF 1128792064 = (VF 1128792064 : Int) := by
    unfold valF
    rw [show sgnF 1128792064 = false by decide, show absF 1128792064 = 1128792064 by decide]
    rfl
  rw [e]
  rcases h with h | h
  · subst h
    rw [show valF 0 = 0 by decide]
    omega
  · unfold valF
    rw [h]
    simp only [if_true]
    omega
theorem VF_lt {a b : Nat} (h : a < b) (hb : b < 2139095040) : VF a < VF b := by
  have h3 := VF_mono (Nat.le_of_lt h) (by omega)
  rcases Nat.lt_or_eq_of_le h3 with h4 | h4
  · exact h4
  · exfalso
    have h5 := nearest_geF (mag := manF a) (place := -149 + (plcF a : Int)) (c := b) (S := 0) (E := plcF a) (by omega) (by omega) (by rw [Nat.pow_zero, Nat.mul_one, ← h4]; exact Nat.le_refl _)
    have h6 := nearest_leF (mag := manF a) (place := -149 + (plcF a : Int)) (c := a) (S := 0) (E := plcF a) (by omega) (by rw [Nat.pow_zero, Nat.mul_one]; exact Nat.le_refl _)
    omega
theorem gap_low {d : Nat} (hf : absF d < 2139095040) (h : d = 0 ∨ sgnF d = true) : (single.order d 3276275712 == some Ordering.lt) = decide (sgnF d = true ∧ 1128792064 < absF d) := by
  rw [order_valF hf (by decide), cmp_ltB]
  have e : valF 3276275712 = -(VF 1128792064 : Int) := by
    unfold valF
    rw [show sgnF 3276275712 = true by decide, show absF 3276275712 = 1128792064 by decide]
    rfl
  rw [e]
  rcases h with h | h
  · subst h
    rw [show valF 0 = 0 by decide, decide_eq_false (by omega), decide_eq_false (by rw [show sgnF 0 = false by decide]; simp)]
  · have hv : valF d = -(VF (absF d) : Int) := by unfold valF; rw [h]; rfl
    rw [hv, h]
    by_cases hh : 1128792064 < absF d
    · have := VF_lt hh hf
      rw [decide_eq_true (by omega), decide_eq_true ⟨rfl, hh⟩]
    · have := VF_mono (Nat.le_of_not_lt hh) (by decide)
      rw [decide_eq_false (by omega), decide_eq_false (fun q => hh q.2)]

end Go.Proofs.Ytopeidmafalklaa

namespace Go.Proofs.Ytopeidmafalklaa
open Ieee Go.RowKit

theorem read_pinf : single.read 2139095040 = .infinity false := by decide
theorem read_minf : single.read 4286578688 = .infinity true := by decide
theorem gap_inf1 {hi : Nat} (h : absF hi < 2139095040) : floatBits .sub .f32 4286578688 hi = some 4286578688 := by
  show (((single.read 4286578688).sum (single.read hi).opposite).map single.write) = _
  rw [read_minf, readF h]
  rfl
theorem gap_inf2 {lo : Nat} (h : absF lo < 2139095040) : floatBits .sub .f32 lo 2139095040 = some 4286578688 := by
  show (((single.read lo).sum (single.read 2139095040).opposite).map single.write) = _
  rw [read_pinf, readF h]
  rfl
theorem gap_inf3 : floatBits .sub .f32 4286578688 2139095040 = some 4286578688 := by decide
/-- the gap's added number at the gap of minus infinity -/
theorem gapNum_inf : ∃ g, gapNum 4286578688 = some g ∧ absF g ≤ 1191182336 := gapNum_some (Or.inr (by decide))
/-- what is not a NaN -/
theorem not_nan {x : Nat} (hx : x < 4294967296) (h : absF x ≤ 2139095040) : absF x < 2139095040 ∨ x = 2139095040 ∨ x = 4286578688 := by
  unfold absF at *
  omega
theorem sum_some {hi g : Nat} (hx : hi < 4294967296) (h : absF hi ≤ 2139095040) (hg : absF g < 2139095040) : ∃ r, floatBits .add .f32 hi g = some r := by
  rcases not_nan hx h with q | q | q
  · obtain ⟨neg, mag, b, e, _⟩ := sum_partsF q hg
    exact ⟨_, e⟩
  · subst q
    refine ⟨single.write (.infinity false), ?_⟩
    show (((single.read 2139095040).sum (single.read g)).map single.write) = _
    rw [read_pinf, readF hg]
    rfl
  · subst q
    refine ⟨single.write (.infinity true), ?_⟩
    show (((single.read 4286578688).sum (single.read g)).map single.write) = _
    rw [read_minf, readF hg]
    rfl
/-- the whole join, computed: the greater number and the gap's added number -/
def joinNum (lo hi : Nat) : Option Nat := (floatBits .sub .f32 lo hi).bind fun d => (gapNum d).bind fun g => floatBits .add .f32 hi g
theorem joinNum_fin {lo hi : Nat} (hh : hi < 4294967296) (h1 : absF lo < 2139095040) (h2 : absF hi < 2139095040) (h : valF lo ≤ valF hi) : ∃ r, joinNum lo hi = some r := by
  obtain ⟨d, g, hd, hg, hg1⟩ := join_gap h1 h2 h
  obtain ⟨r, hr⟩ := sum_some hh (Nat.le_of_lt h2) (g := g) (by omega)
  refine ⟨r, ?_⟩
  unfold joinNum
  rw [hd]; simp only [Option.bind_some]
  rw [hg]; exact hr
theorem joinNum_inf {lo hi : Nat} (hh : hi < 4294967296) (h : absF hi ≤ 2139095040) (hd : floatBits .sub .f32 lo hi = some 4286578688) : ∃ r, joinNum lo hi = some r := by
  obtain ⟨g, hg, hg1⟩ := gapNum_inf
  obtain ⟨r, hr⟩ := sum_some hh h (g := g) (by omega)
  refine ⟨r, ?_⟩
  unfold joinNum
  rw [hd]; simp only [Option.bind_some]
  rw [hg]; exact hr

end Go.Proofs.Ytopeidmafalklaa

namespace Go.Proofs.Ytopeidmafalklaa
open Ieee Go.RowKit

theorem v200 {U : Nat} (hU : U = 925) : VF 1128792064 * 2 ^ U = VD 4641240890982006784 := by
  obtain ⟨V, hV⟩ : ∃ V, V = 1029 := ⟨_, rfl⟩
  have h2 : plcD 4641240890982006784 = V := by rw [hV]; decide
  unfold VF VD
  rw [h2, show manF 1128792064 = 13107200 by decide, show plcF 1128792064 = 133 by decide, show manD 4641240890982006784 = 13107200 * 2 ^ 29 by decide, Nat.mul_assoc, Nat.mul_assoc, ← Nat.pow_add, ← Nat.pow_add]
  congr 2
  omega
theorem v201 {U : Nat} (hU : U = 925) : VD 4641240890982006785 ≤ VF 1128792065 * 2 ^ U := by
  obtain ⟨V, hV⟩ : ∃ V, V = 1029 := ⟨_, rfl⟩
  have h2 : plcD 4641240890982006785 = V := by rw [hV]; decide
  unfold VF VD
  rw [h2, show manF 1128792065 = 13107201 by decide, show plcF 1128792065 = 133 by decide, show manD 4641240890982006785 = 7036874417766401 by decide, Nat.mul_assoc, ← Nat.pow_add, show 133 + U = 29 + V by omega, Nat.pow_add, ← Nat.mul_assoc]
  exact Nat.mul_le_mul_right _ (by decide)
theorem VD_lt {a b : Nat} (h : a < b) (hb : b < 9218868437227405312) : VD a < VD b := by
  have h3 := VD_mono (Nat.le_of_lt h) (by omega)
  rcases Nat.lt_or_eq_of_le h3 with h4 | h4
  · exact h4
  · exfalso
    have h5 := nearest_ge (mag := manD a) (place := -1074 + (plcD a : Int)) (c := b) (S := 0) (E := plcD a) (by omega) (by omega) (by rw [Nat.pow_zero, Nat.mul_one, ← h4]; exact Nat.le_refl _)
    have h6 := nearest_le (mag := manD a) (place := -1074 + (plcD a : Int)) (c := a) (S := 0) (E := plcD a) (by omega) (by rw [Nat.pow_zero, Nat.mul_one]; exact Nat.le_refl _)
    omega
/-- the widened gap and its two tests -/
theorem wide_tests {d : Nat} (hf : absF d < 2139095040) (h : sgnF d = true) : ∃ y, floatToFloatBits .f32 d .f64 = some y ∧ sgnD y = true ∧ absD y < 9218868437227405312 ∧ (double.order y 4641240890982006784 == some Ordering.gt) = false ∧ (double.order y 13864612927836782592 == some Ordering.lt) = decide (sgnF d = true ∧ 1128792064 < absF d) := by
  obtain ⟨U, hU⟩ : ∃ U, U = 925 := ⟨_, rfl⟩
  obtain ⟨y, hy, hs, hfin, hle, hge⟩ := widen_is (x := d) hf hU
  rw [h] at hs
  have hv : valD y = -(VD (absD y) : Int) := by unfold valD; rw [hs]; rfl
  refine ⟨y, hy, hs, hfin, ?_, ?_⟩
  · rw [order_valD hfin (by decide), cmp_gtB, hv]
    apply decide_eq_false
    have e : valD 4641240890982006784 = (VD 4641240890982006784 : Int) := by
      unfold valD
      rw [show sgnD 4641240890982006784 = false by decide, show absD 4641240890982006784 = 4641240890982006784 by decide]
      rfl
    rw [e]
    omega
  · rw [order_valD hfin (by decide), cmp_ltB, hv]
    have e : valD 13864612927836782592 = -(VD 4641240890982006784 : Int) := by
      unfold valD
      rw [show sgnD 13864612927836782592 = true by decide, show absD 13864612927836782592 = 4641240890982006784 by decide]
      rfl
    rw [e, h]
    by_cases hh : 1128792064 < absF d
    · have h1 := hge 4641240890982006785 (by decide) (Nat.le_trans (v201 hU) (Nat.mul_le_mul_right _ (VF_mono (Nat.succ_le_of_lt hh) (by omega))))
      have h2 := VD_lt (a := 4641240890982006784) (b := absD y) (by omega) hfin
      rw [decide_eq_true (by omega), decide_eq_true ⟨rfl, hh⟩]
    · have h1 := hle 4641240890982006784 (by
        rw [← v200 hU]
        exact Nat.mul_le_mul_right _ (VF_mono (Nat.le_of_not_lt hh) (by decide)))
      have h2 := VD_mono h1 (by decide)
      rw [decide_eq_false (by omega), decide_eq_false (fun q => hh q.2)]

end Go.Proofs.Ytopeidmafalklaa

namespace Go.Proofs.Ytopeidmafalklaa
open Ieee Go.RowKit

theorem k_down1 : ∀ n : Fin 12, floatBits .sub .f64 (floatOfInt .f64 ((n.val : Int) + 1)) 4607182418800017408 = some (floatOfInt .f64 (n.val : Int)) := by decide +kernel
theorem k_down2 : ∀ n : Fin 13, floatBits .sub .f64 (floatOfInt .f64 (2 * (n.val : Int) + 1)) 4611686018427387904 = some (floatOfInt .f64 (2 * (n.val : Int) - 1)) := by decide +kernel
theorem k_test1 : ∀ n : Fin 13, (double.order (floatOfInt .f64 (n.val : Int)) 4607182418800017408 == some Ordering.gt || double.order (floatOfInt .f64 (n.val : Int)) 4607182418800017408 == some Ordering.eq) = decide (1 ≤ n.val) := by decide +kernel
theorem k_test2 : ∀ n : Fin 14, (double.order (floatOfInt .f64 (2 * (n.val : Int) - 1)) 4607182418800017408 == some Ordering.gt || double.order (floatOfInt .f64 (2 * (n.val : Int) - 1)) 4607182418800017408 == some Ordering.eq) = decide (1 ≤ n.val) := by decide +kernel
theorem expKs_is : expKs = (List.range 12).map fun i : Nat => floatOfInt .f64 (12 - (i : Int)) := by decide +kernel
theorem logKs_is : logKs = (List.range 13).map fun i : Nat => floatOfInt .f64 (25 - 2 * (i : Int)) := by decide +kernel
theorem one_is : floatOfInt .f64 1 = 4607182418800017408 ∧ floatOfInt .f64 0 = 0 := by decide +kernel
/-- the tests at the gaps of minus infinity and nought -/
theorem tests_inf : floatToFloatBits .f32 4286578688 .f64 = some 18442240474082181120 ∧ (double.order 18442240474082181120 4641240890982006784 == some Ordering.gt) = false ∧ (double.order 18442240474082181120 13864612927836782592 == some Ordering.lt) = true ∧ (single.order 4286578688 1128792064 == some Ordering.gt) = false ∧ (single.order 4286578688 3276275712 == some Ordering.lt) = true ∧ expNum 4286578688 = some 0 := by decide +kernel
theorem tests_zero : floatToFloatBits .f32 0 .f64 = some 0 ∧ (double.order 0 4641240890982006784 == some Ordering.gt) = false ∧ (double.order 0 13864612927836782592 == some Ordering.lt) = false := by decide +kernel

end Go.Proofs.Ytopeidmafalklaa


namespace Go.Proofs.Ytopeidmafalklaa
open Ieee Go.RowKit

theorem val_pos {x : Nat} (h : sgnD x = false) : valD x = (VD (absD x) : Int) := by unfold valD; rw [h]; rfl
theorem val_neg {x : Nat} (h : sgnD x = true) : valD x = -(VD (absD x) : Int) := by unfold valD; rw [h]; rfl
theorem val_posF {x : Nat} (h : sgnF x = false) : valF x = (VF (absF x) : Int) := by unfold valF; rw [h]; rfl
theorem val_negF {x : Nat} (h : sgnF x = true) : valF x = -(VF (absF x) : Int) := by unfold valF; rw [h]; rfl
theorem tot_val (x y : Nat) : totD x y = valD x + valD y := rfl
theorem tot_valF (x y : Nat) : totF x y = valF x + valF y := rfl
/-- a sum keeps bounds that are numbers -/
theorem addD {x y c e : Nat} (hx : absD x < 9218868437227405312) (hy : absD y < 9218868437227405312) (hc : absD c < 9218868437227405312) (he : absD e < 9218868437227405312) (h1 : valD c ≤ valD x + valD y) (h2 : valD x + valD y ≤ valD e) :
    ∃ r, floatBits .add .f64 x y = some r ∧ absD r < 9218868437227405312 ∧ valD c ≤ valD r ∧ valD r ≤ valD e := by
  obtain ⟨neg, mag, b, hr, hm, hp, hn, hz⟩ := sum_parts hx hy
  rw [tot_val] at hm hp hn hz
  obtain ⟨w1, w2, w3⟩ := nearest_word neg mag (-1074 + (b : Int))
  have hs : sgnD (double.nearest neg mag (-1074 + (b : Int))) = neg := by rw [w2]; exact sgn_word w3
  have up : ∀ k, mag * 2 ^ b ≤ VD k → double.nearest false mag (-1074 + (b : Int)) ≤ k := fun k hk => nearest_le (S := 0) (E := b) (by omega) (by rw [Nat.pow_zero, Nat.mul_one]; exact hk)
  have dn : ∀ k, k ≤ 9218868437227405312 → VD k ≤ mag * 2 ^ b → k ≤ double.nearest false mag (-1074 + (b : Int)) := fun k hk h => nearest_ge (S := 0) (E := b) hk (by omega) (by rw [Nat.pow_zero, Nat.mul_one]; exact h)
  refine ⟨_, hr, ?_⟩
  obtain ⟨r, er⟩ : ∃ r, double.nearest neg mag (-1074 + (b : Int)) = r := ⟨_, rfl⟩
  obtain ⟨n, en⟩ : ∃ n, double.nearest false mag (-1074 + (b : Int)) = n := ⟨_, rfl⟩
  rw [er] at w1 hs ⊢
  rw [en] at w1 up dn
  obtain ⟨t, et⟩ : ∃ t, mag * 2 ^ b = t := ⟨_, rfl⟩
  rw [et] at hm up dn
  rcases Int.lt_trichotomy 0 (valD x + valD y) with h | h | h
  · have hf := hp h
    rw [hf] at hs
    rw [val_pos hs, w1]
    have hse : sgnD e = false := by
      cases q : sgnD e with
      | false => rfl
      | true => rw [val_neg q] at h2; omega
    rw [val_pos hse] at h2 ⊢
    have u1 := up (absD e) (by omega)
    have u2 := VD_mono u1 (by omega)
    refine ⟨by omega, ?_, by omega⟩
    cases q : sgnD c with
    | false =>
      rw [val_pos q] at h1 ⊢
      have d1 := dn (absD c) (by omega) (by omega)
      have d2 := VD_mono d1 (by omega)
      omega
    | true => rw [val_neg q]; omega
  · have t0 : t = 0 := by omega
    have u1 := up 0 (by rw [VD_nought]; omega)
    have n0 : n = 0 := by omega
    have hv : valD r = 0 := by
      unfold valD
      rw [w1, n0, VD_nought]
      split <;> rfl
    rw [hv, w1, n0]
    exact ⟨by decide, by omega, by omega⟩
  · have hf := hn h
    rw [hf] at hs
    rw [val_neg hs, w1]
    have hsc : sgnD c = true := by
      cases q : sgnD c with
      | true => rfl
      | false => rw [val_pos q] at h1; omega
    rw [val_neg hsc] at h1 ⊢
    have u1 := up (absD c) (by omega)
    have u2 := VD_mono u1 (by omega)
    refine ⟨by omega, by omega, ?_⟩
    cases q : sgnD e with
    | true =>
      rw [val_neg q] at h2 ⊢
      have d1 := dn (absD e) (by omega) (by omega)
      have d2 := VD_mono d1 (by omega)
      omega
    | false => rw [val_pos q]; omega
theorem VF_nought : VF 0 = 0 := by decide
theorem addF {x y c e : Nat} (hx : absF x < 2139095040) (hy : absF y < 2139095040) (hc : absF c < 2139095040) (he : absF e < 2139095040) (h1 : valF c ≤ valF x + valF y) (h2 : valF x + valF y ≤ valF e) :
    ∃ r, floatBits .add .f32 x y = some r ∧ absF r < 2139095040 ∧ valF c ≤ valF r ∧ valF r ≤ valF e ∧ (valF x + valF y = 0 → (sgnF x && sgnF y) = false → r = 0) := by
  obtain ⟨neg, mag, b, hr, hm, hp, hn, hz⟩ := sum_partsF hx hy
  rw [tot_valF] at hm hp hn hz
  obtain ⟨w1, w2, w3⟩ := nearest_wordF neg mag (-149 + (b : Int))
  have hs : sgnF (single.nearest neg mag (-149 + (b : Int))) = neg := by rw [w2]; exact sgn_wordF w3
  have up : ∀ k, mag * 2 ^ b ≤ VF k → single.nearest false mag (-149 + (b : Int)) ≤ k := fun k hk => nearest_leF (S := 0) (E := b) (by omega) (by rw [Nat.pow_zero, Nat.mul_one]; exact hk)
  have dn : ∀ k, k ≤ 2139095040 → VF k ≤ mag * 2 ^ b → k ≤ single.nearest false mag (-149 + (b : Int)) := fun k hk h => nearest_geF (S := 0) (E := b) hk (by omega) (by rw [Nat.pow_zero, Nat.mul_one]; exact h)
  refine ⟨_, hr, ?_⟩
  have hw0 : single.nearest false mag (-149 + (b : Int)) = 0 → neg = false → single.nearest neg mag (-149 + (b : Int)) = 0 := fun a b => by rw [b]; exact a
  obtain ⟨r, er⟩ : ∃ r, single.nearest neg mag (-149 + (b : Int)) = r := ⟨_, rfl⟩
  obtain ⟨n, en⟩ : ∃ n, single.nearest false mag (-149 + (b : Int)) = n := ⟨_, rfl⟩
  rw [er] at w1 hs hw0 ⊢
  rw [en] at w1 up dn hw0
  obtain ⟨t, et⟩ : ∃ t, mag * 2 ^ b = t := ⟨_, rfl⟩
  rw [et] at hm up dn
  rcases Int.lt_trichotomy 0 (valF x + valF y) with h | h | h
  · have hf := hp h
    rw [hf] at hs
    rw [val_posF hs, w1]
    have hse : sgnF e = false := by
      cases q : sgnF e with
      | false => rfl
      | true => rw [val_negF q] at h2; omega
    rw [val_posF hse] at h2 ⊢
    have u1 := up (absF e) (by omega)
    have u2 := VF_mono u1 (by omega)
    refine ⟨by omega, ?_, by omega, fun h0 => absurd h0 (by omega)⟩
    cases q : sgnF c with
    | false =>
      rw [val_posF q] at h1 ⊢
      have d1 := dn (absF c) (by omega) (by omega)
      have d2 := VF_mono d1 (by omega)
      omega
    | true => rw [val_negF q]; omega
  · have t0 : t = 0 := by omega
    have u1 := up 0 (by rw [VF_nought]; omega)
    have n0 : n = 0 := by omega
    have hv : valF r = 0 := by
      unfold valF
      rw [w1, n0, VF_nought]
      split <;> rfl
    rw [hv, w1, n0]
    exact ⟨by decide, by omega, by omega, fun _ hb => hw0 n0 (by rw [hz h.symm]; exact hb)⟩
  · have hf := hn h
    rw [hf] at hs
    rw [val_negF hs, w1]
    have hsc : sgnF c = true := by
      cases q : sgnF c with
      | true => rfl
      | false => rw [val_posF q] at h1; omega
    rw [val_negF hsc] at h1 ⊢
    have u1 := up (absF c) (by omega)
    have u2 := VF_mono u1 (by omega)
    refine ⟨by omega, by omega, ?_, fun h0 => absurd h0 (by omega)⟩
    cases q : sgnF e with
    | true =>
      rw [val_negF q] at h2 ⊢
      have d1 := dn (absF e) (by omega) (by omega)
      have d2 := VF_mono d1 (by omega)
      omega
    | false => rw [val_posF q]; omega
/-- a product between bounds -/
theorem mulD {x y c e : Nat} (hx : absD x < 9218868437227405312) (hy : absD y < 9218868437227405312) {U : Nat} (hU : U = 1074) (hc : c ≤ 9218868437227405312) (h1 : VD c * 2 ^ U ≤ VD (absD x) * VD (absD y)) (h2 : VD (absD x) * VD (absD y) ≤ VD e * 2 ^ U) :
    ∃ r, floatBits .mul .f64 x y = some r ∧ c ≤ absD r ∧ absD r ≤ e ∧ sgnD r = (sgnD x ^^ sgnD y) := by
  obtain ⟨w1, w2, w3⟩ := nearest_word (sgnD x ^^ sgnD y) (manD (absD x) * manD (absD y)) ((-1074 + (plcD (absD x) : Int)) + (-1074 + (plcD (absD y) : Int)))
  have hv : manD (absD x) * manD (absD y) * 2 ^ (plcD (absD x) + plcD (absD y)) = VD (absD x) * VD (absD y) := by
    unfold VD
    rw [Nat.pow_add]
    simp only [Nat.mul_assoc, Nat.mul_left_comm]
  refine ⟨double.nearest (sgnD x ^^ sgnD y) (manD (absD x) * manD (absD y)) ((-1074 + (plcD (absD x) : Int)) + (-1074 + (plcD (absD y) : Int))), ?_, ?_, ?_, ?_⟩
  · show (((double.read x).product (double.read y)).map double.write) = _
    rw [readD hx, readD hy]
    rfl
  · rw [w1]
    exact nearest_ge (S := U) (E := plcD (absD x) + plcD (absD y)) hc (by omega) (by rw [hv]; exact h1)
  · rw [w1]
    exact nearest_le (S := U) (E := plcD (absD x) + plcD (absD y)) (by omega) (by rw [hv]; exact h2)
  · rw [w2]
    exact sgn_word w3
/-- a quotient between bounds -/
theorem quoD {x y c e : Nat} (hx : absD x < 9218868437227405312) (hy : absD y < 9218868437227405312) (h0 : VD (absD y) ≠ 0) {U : Nat} (hU : U = 1074) (hc : c ≤ 9218868437227405312) (h1 : VD c * VD (absD y) ≤ VD (absD x) * 2 ^ U) (h2 : VD (absD x) * 2 ^ U ≤ VD e * VD (absD y)) :
    ∃ r, floatBits .quo .f64 x y = some r ∧ c ≤ absD r ∧ absD r ≤ e ∧ sgnD r = (sgnD x ^^ sgnD y) := by
  have hn0 : manD (absD y) ≠ 0 := fun h => h0 (by unfold VD; rw [h, Nat.zero_mul])
  have hml := manD_lt (absD x)
  have hcl := manD_lt c
  have hel := manD_lt e
  unfold VD at h1 h2
  obtain ⟨m, hm⟩ : ∃ m, manD (absD x) = m := ⟨_, rfl⟩
  obtain ⟨n, hn⟩ : ∃ n, manD (absD y) = n := ⟨_, rfl⟩
  obtain ⟨px, hpx⟩ : ∃ p, plcD (absD x) = p := ⟨_, rfl⟩
  obtain ⟨py, hpy⟩ : ∃ p, plcD (absD y) = p := ⟨_, rfl⟩
  obtain ⟨mc, hmc⟩ : ∃ p, manD c = p := ⟨_, rfl⟩
  obtain ⟨pc, hpc⟩ : ∃ p, plcD c = p := ⟨_, rfl⟩
  obtain ⟨me, hme⟩ : ∃ p, manD e = p := ⟨_, rfl⟩
  obtain ⟨pe, hpe⟩ : ∃ p, plcD e = p := ⟨_, rfl⟩
  have rx := readD hx
  have ry := readD hy
  rw [hm, hpx] at rx
  rw [hn, hpy] at ry
  rw [hm, hn, hpx, hpy, hmc, hpc] at h1
  rw [hm, hn, hpx, hpy, hme, hpe] at h2
  rw [hn] at hn0
  rw [hm] at hml
  rw [hmc] at hcl
  rw [hme] at hel
  obtain ⟨more, hmore⟩ : ∃ k, 54 + n.log2 - m.log2 = k := ⟨_, rfl⟩
  obtain ⟨mag, hmag⟩ : ∃ k, 2 * ((m <<< more) / n) + ((m <<< more) % n != 0).toNat = k := ⟨_, rfl⟩
  have hq : floatBits .quo .f64 x y = some (double.nearest (sgnD x ^^ sgnD y) mag ((-1074 + (px : Int)) - (-1074 + (py : Int)) - (more : Int) - 1)) := by
    show (((double.read x).quotient 54 (double.read y)).map double.write) = _
    rw [rx, ry]
    unfold Datum.quotient
    simp only [if_neg hn0, hmore, hmag]
    rfl
  have hnpos : 0 < n := Nat.pos_of_ne_zero hn0
  rw [Nat.shiftLeft_eq] at hmag
  obtain ⟨D, hD⟩ : ∃ D, m * 2 ^ more = D := ⟨_, rfl⟩
  rw [hD] at hmag
  obtain ⟨f, hf⟩ : ∃ f, D / n = f := ⟨_, rfl⟩
  obtain ⟨rm, hrm⟩ : ∃ f, D % n = f := ⟨_, rfl⟩
  have hdm := Nat.div_add_mod D n
  have hrl : rm < n := by rw [← hrm]; exact Nat.mod_lt _ hnpos
  rw [hf, hrm] at hdm hmag
  -- what is compared, with the shift laid in
  have k1 : mc * 2 ^ (pc + (py + more)) * n ≤ D * 2 ^ (px + U) := by
    have := Nat.mul_le_mul_right (2 ^ more) h1
    rw [← hD]
    refine Nat.le_trans (Nat.le_of_eq ?_) (Nat.le_trans this (Nat.le_of_eq ?_))
    · rw [Nat.pow_add, Nat.pow_add]; simp only [Nat.mul_assoc, Nat.mul_left_comm, Nat.mul_comm]
    · rw [Nat.pow_add]; simp only [Nat.mul_assoc, Nat.mul_left_comm, Nat.mul_comm]
  have k2 : D * 2 ^ (px + U) ≤ me * 2 ^ (pe + (py + more)) * n := by
    have := Nat.mul_le_mul_right (2 ^ more) h2
    rw [← hD]
    refine Nat.le_trans (Nat.le_of_eq ?_) (Nat.le_trans this (Nat.le_of_eq ?_))
    · rw [Nat.pow_add]; simp only [Nat.mul_assoc, Nat.mul_left_comm, Nat.mul_comm]
    · rw [Nat.pow_add, Nat.pow_add]; simp only [Nat.mul_assoc, Nat.mul_left_comm, Nat.mul_comm]
  have hbig : m ≠ 0 → 9007199254740992 ≤ f := by
    intro hm0
    have a1 : 2 ^ m.log2 ≤ m := Nat.log2_self_le hm0
    have a2 : n < 2 ^ (n.log2 + 1) := Nat.lt_log2_self
    have a3 : m.log2 < 53 := (Nat.log2_lt hm0).2 (by omega)
    have a4 : 2 ^ m.log2 * 2 ^ more ≤ D := by rw [← hD]; exact Nat.mul_le_mul_right _ a1
    rw [← Nat.pow_add, show m.log2 + more = 53 + (n.log2 + 1) by omega, Nat.pow_add] at a4
    have a5 : 9007199254740992 * n ≤ D := Nat.le_trans (Nat.mul_le_mul_left _ (Nat.le_of_lt a2)) (by rw [show (9007199254740992 : Nat) = 2 ^ 53 by decide]; exact a4)
    rw [← hf]
    exact (Nat.le_div_iff_mul_le hnpos).2 a5
  have hmagf : 2 * f ≤ mag ∧ mag ≤ 2 * f + 1 ∧ (rm = 0 → mag = 2 * f) := by
    rw [← hmag]
    refine ⟨Nat.le_add_right _ _, Nat.add_le_add_left (by cases (rm != 0) <;> decide) _, fun h => by rw [h]; rfl⟩
  -- both sides
  have low : mc * 2 ^ pc * 2 ^ (py + more + 1) ≤ mag * 2 ^ (px + U) := by
    rw [Nat.mul_assoc, ← Nat.pow_add]
    by_cases hm0 : m = 0
    · have hD0 : D = 0 := by rw [← hD, hm0, Nat.zero_mul]
      rw [hD0, Nat.zero_mul] at k1
      have hz : mc * 2 ^ (pc + (py + more)) = 0 := by
        rcases Nat.mul_eq_zero.1 (Nat.le_zero.1 k1) with q | q
        · exact q
        · omega
      rw [show pc + (py + more + 1) = pc + (py + more) + 1 by omega, Nat.pow_succ, ← Nat.mul_assoc, hz, Nat.zero_mul]
      exact Nat.zero_le _
    have hb := hbig hm0
    refine Nat.le_trans ?_ (Nat.mul_le_mul_right _ hmagf.1)
    rcases Nat.le_total (px + U) (pc + (py + more)) with q | q
    · obtain ⟨d, hd⟩ := Nat.le.dest q
      rw [← hd, Nat.pow_add 2 (px + U) d, ← Nat.mul_assoc, Nat.mul_right_comm mc (2 ^ (px + U)) (2 ^ d), Nat.mul_right_comm (mc * 2 ^ d) (2 ^ (px + U)) n] at k1
      have k3 := Nat.le_of_mul_le_mul_right k1 (Nat.two_pow_pos _)
      have k4 : mc * 2 ^ d ≤ f := by rw [← hf]; exact (Nat.le_div_iff_mul_le hnpos).2 k3
      rw [show pc + (py + more + 1) = (px + U) + d + 1 by omega, Nat.pow_succ, Nat.pow_add 2 (px + U) d, Nat.mul_comm (2 ^ (px + U) * 2 ^ d) 2, Nat.mul_comm (2 ^ (px + U)) (2 ^ d), ← Nat.mul_assoc 2, ← Nat.mul_assoc mc, ← Nat.mul_assoc mc, Nat.mul_comm mc 2, Nat.mul_assoc 2 mc]
      exact Nat.mul_le_mul_right _ (Nat.mul_le_mul_left _ k4)
    · have e1 : 2 * f * 2 ^ (px + U) = f * 2 ^ (px + U + 1) := by rw [Nat.pow_succ, Nat.mul_comm 2 f, Nat.mul_assoc, Nat.mul_comm 2]
      rw [e1]
      exact Nat.mul_le_mul (by omega) (Nat.pow_le_pow_right (by decide) (by omega))
  have high : mag * 2 ^ (px + U) ≤ me * 2 ^ pe * 2 ^ (py + more + 1) := by
    rw [Nat.mul_assoc, ← Nat.pow_add]
    by_cases hm0 : m = 0
    · have hD0 : D = 0 := by rw [← hD, hm0, Nat.zero_mul]
      have hf0 : f = 0 := by rw [← hf, hD0, Nat.zero_div]
      have hr0 : rm = 0 := by rw [← hrm, hD0, Nat.zero_mod]
      rw [hmagf.2.2 hr0, hf0, Nat.mul_zero, Nat.zero_mul]
      exact Nat.zero_le _
    have hb := hbig hm0
    have k5 : f * n ≤ D := by rw [Nat.mul_comm]; omega
    have k6 : f * 2 ^ (px + U) ≤ me * 2 ^ (pe + (py + more)) := by
      have := Nat.le_trans (Nat.mul_le_mul_right (2 ^ (px + U)) k5) k2
      rw [Nat.mul_right_comm] at this
      exact Nat.le_of_mul_le_mul_right this hnpos
    rcases Nat.lt_or_ge (pe + (py + more)) (px + U) with q | q
    · exfalso
      have : f * 2 ^ (px + U) < f * 2 ^ (px + U) := by
        refine Nat.lt_of_le_of_lt k6 (Nat.lt_of_lt_of_le ?_ (Nat.mul_le_mul_right _ hb))
        refine Nat.lt_of_lt_of_le (Nat.mul_lt_mul_of_pos_right hel (Nat.two_pow_pos _)) ?_
        exact Nat.mul_le_mul_left _ (Nat.pow_le_pow_right (by decide) (by omega))
      exact Nat.lt_irrefl _ this
    · obtain ⟨d, hd⟩ := Nat.le.dest q
      rw [← hd, Nat.pow_add 2 (px + U) d, ← Nat.mul_assoc, Nat.mul_right_comm me (2 ^ (px + U)) (2 ^ d), Nat.mul_right_comm (me * 2 ^ d) (2 ^ (px + U)) n] at k2
      have k3 := Nat.le_of_mul_le_mul_right k2 (Nat.two_pow_pos _)
      have k4 : mag ≤ 2 * (me * 2 ^ d) := by
        have a1 : f ≤ me * 2 ^ d := by rw [← hf]; exact Nat.div_le_of_le_mul (by rw [Nat.mul_comm]; exact k3)
        by_cases a2 : f = me * 2 ^ d
        · have a3 : rm = 0 := by rw [← a2, Nat.mul_comm] at k3; omega
          rw [hmagf.2.2 a3]
          omega
        · have := hmagf.2.1
          omega
      rw [show pe + (py + more + 1) = (px + U) + d + 1 by omega, Nat.pow_succ, Nat.pow_add 2 (px + U) d, Nat.mul_comm (2 ^ (px + U) * 2 ^ d) 2, Nat.mul_comm (2 ^ (px + U)) (2 ^ d), ← Nat.mul_assoc 2, ← Nat.mul_assoc me, ← Nat.mul_assoc me, Nat.mul_comm me 2, Nat.mul_assoc 2 me]
      exact Nat.mul_le_mul_right _ k4
  obtain ⟨w1, w2, w3⟩ := nearest_word (sgnD x ^^ sgnD y) mag ((-1074 + (px : Int)) - (-1074 + (py : Int)) - (more : Int) - 1)
  refine ⟨_, hq, ?_, ?_, ?_⟩
  · rw [w1]
    refine nearest_ge (S := py + more + 1) (E := px + U) hc (by omega) ?_
    unfold VD
    rw [hmc, hpc]
    exact low
  · rw [w1]
    refine nearest_le (S := py + more + 1) (E := px + U) (by omega) ?_
    unfold VD
    rw [hme, hpe]
    exact high
  · rw [w2]
    exact sgn_word w3

end Go.Proofs.Ytopeidmafalklaa


namespace Go.Proofs.Ytopeidmafalklaa
open Ieee Go.RowKit

/-- one step of the logarithm's row, below two -/
theorem row_stepB {u q i u2 R : Nat} {U : Nat} (hU : U = 1074) (hu : u < 9218868437227405312) (hq : q < 9218868437227405312) (hi : i < 9218868437227405312) (hu2 : u2 < 9218868437227405312) (_hR : R < 9218868437227405312) (h : VD u * VD q ≤ VD u2 * 2 ^ U) (h2 : VD i + VD u2 ≤ VD R) :
    ∃ a r, floatBits .mul .f64 u q = some a ∧ floatBits .add .f64 i a = some r ∧ r ≤ R := by
  obtain ⟨q1, q2⟩ := abs_of (r := q) (by omega)
  obtain ⟨u1, u3⟩ := abs_of (r := u) (by omega)
  obtain ⟨i1, i2⟩ := abs_of (r := i) (by omega)
  obtain ⟨a, ha, _, ha2, ha3⟩ := mulD (x := u) (y := q) (c := 0) (e := u2) (by omega) (by omega) hU (by omega) (by rw [VD_nought, Nat.zero_mul]; exact Nat.zero_le _) (by rw [u1, q1]; exact h)
  rw [u3, q2] at ha3
  have va := VD_mono ha2 (by omega)
  obtain ⟨r, hr, _, hr2⟩ := add_pos (x := i) (y := a) (c := 0) (e := R) (T := VD i + VD (absD a)) (by omega) (by omega) (by
    unfold totD
    rw [i1, i2, ha3]
    simp) (by intro _; rw [i2]; rfl) (by rw [VD_nought]; omega) (by omega) (by omega)
  exact ⟨a, r, ha, hr, hr2⟩
theorem logRow_two {u : Nat} (hu : u ≤ 4598175219545276416) : ∀ (ks : List Nat) (q : Nat), (∀ k ∈ ks, ∃ i, floatBits .quo .f64 4607182418800017408 k = some i ∧ i ≤ 4607182418800017408) → q ≤ 4611686018427387904 → ∃ r, logRow u ks q = some r ∧ r ≤ 4611686018427387904
  | [], q, _, hq => ⟨q, rfl, hq⟩
  | k :: ks, q, hk, hq => by
    obtain ⟨U, hU⟩ : ∃ U, U = 1074 := ⟨_, rfl⟩
    obtain ⟨i, hi, hi1⟩ := hk k (List.mem_cons_self ..)
    have vu := VD_mono hu (by decide)
    have vq := VD_mono hq (by decide)
    have vi := VD_mono hi1 (by decide)
    have e1 : VD 4598175219545276416 * VD 4611686018427387904 ≤ VD 4602678819172646912 * 2 ^ U := by rw [hU]; decide +kernel
    have e2 : VD 4607182418800017408 + VD 4602678819172646912 ≤ VD 4611686018427387904 := by decide +kernel
    obtain ⟨a, r, ha, hr, hr1⟩ := row_stepB (u := u) (q := q) (i := i) (u2 := 4602678819172646912) (R := 4611686018427387904) hU (by omega) (by omega) (by omega) (by decide) (by decide) (Nat.le_trans (Nat.mul_le_mul vu vq) e1) (by omega)
    obtain ⟨z, hz, hz1⟩ := logRow_two hu ks r (fun k h => hk k (List.mem_cons_of_mem _ h)) hr1
    refine ⟨z, ?_, hz1⟩
    unfold logRow
    rw [hi]; simp only [Option.bind_some]
    rw [ha]; simp only [Option.bind_some]
    rw [hr]; exact hz
theorem logRow_app {u : Nat} : ∀ (ks ls : List Nat) (q : Nat), logRow u (ks ++ ls) q = (logRow u ks q).bind (logRow u ls)
  | [], _, _ => rfl
  | k :: ks, ls, q => by
    rw [List.cons_append]
    unfold logRow
    cases floatBits .quo .f64 4607182418800017408 k with
    | none => rfl
    | some i =>
      simp only [Option.bind_some]
      cases floatBits .mul .f64 u q with
      | none => rfl
      | some a =>
        simp only [Option.bind_some]
        cases floatBits .add .f64 i a with
        | none => rfl
        | some r =>
          simp only [Option.bind_some]
          exact logRow_app ks ls r
def logKs12 : List Nat := [4627730092099895296, 4627167142146473984, 4626604192193052672, 4626041242239631360, 4625478292286210048, 4624633867356078080, 4623507967449235456, 4622382067542392832, 4621256167635550208, 4619567317775286272, 4617315517961601024, 4613937818241073152]
theorem logKs_cut : logKs = logKs12 ++ [4607182418800017408] := rfl
/-- the middle of a logarithm: from a and b to 2 s q, with bounds -/
theorem log_mid {a b s1 u1 u2 q1 m1 b1 : Nat} {U : Nat} (hU : U = 1074) (ha : absD a < 9218868437227405312) (hb : b < 9218868437227405312) (hb0 : VD b ≠ 0) (hs : VD (absD a) * 2 ^ U ≤ VD s1 * VD b) (hs1 : s1 < 9218868437227405312)
    (hu : VD s1 * VD s1 ≤ VD u1 * 2 ^ U) (hu1 : u1 ≤ 4598175219545276416) (hu2 : VD u1 * VD 4611686018427387904 ≤ VD u2 * 2 ^ U) (hu3 : u2 < 9218868437227405312) (hq : VD 4607182418800017408 + VD u2 ≤ VD q1) (hq1 : q1 < 9218868437227405312)
    (hm : VD s1 * VD q1 ≤ VD m1 * 2 ^ U) (hm1 : m1 < 9218868437227405312) (hbb : VD 4611686018427387904 * VD m1 ≤ VD b1 * 2 ^ U) :
    ∃ s u q m c, floatBits .quo .f64 a b = some s ∧ floatBits .mul .f64 s s = some u ∧ logRow u logKs 0 = some q ∧ floatBits .mul .f64 s q = some m ∧ floatBits .mul .f64 4611686018427387904 m = some c ∧ absD c ≤ b1 ∧ sgnD c = sgnD a := by
  have n0 : VD 0 = 0 := VD_nought
  obtain ⟨b2, b3⟩ := abs_of (r := b) (by omega)
  obtain ⟨s, es, _, s2, s3⟩ := quoD (x := a) (y := b) (c := 0) (e := s1) ha (by omega) (by rw [b2]; exact hb0) hU (by omega) (by rw [n0, Nat.zero_mul]; exact Nat.zero_le _) (by rw [b2]; exact hs)
  rw [b3, Bool.xor_false] at s3
  have vs := VD_mono s2 (by omega)
  obtain ⟨u, eu, _, u3, u4⟩ := mulD (x := s) (y := s) (c := 0) (e := u1) (by omega) (by omega) hU (by omega) (by rw [n0, Nat.zero_mul]; exact Nat.zero_le _) (Nat.le_trans (Nat.mul_le_mul vs vs) hu)
  rw [show (sgnD s ^^ sgnD s) = false by cases sgnD s <;> rfl] at u4
  have u5 := abs_pos (bits_lt eu) u4
  rw [u5] at u3
  have vu := VD_mono u3 (by omega)
  have hks : ∀ k ∈ logKs12, 4607182418800017408 ≤ k ∧ k < 9218868437227405312 := by decide
  obtain ⟨q, eq, q2⟩ := logRow_two (u := u) (by omega) logKs12 0 (fun k hk => quo_k (hks k hk).1 (hks k hk).2) (by decide)
  have vq := VD_mono q2 (by decide)
  obtain ⟨y, r, ey, er, r1⟩ := row_stepB (u := u) (q := q) (i := 4607182418800017408) (u2 := u2) (R := q1) hU (by omega) (by omega) (by decide) hu3 hq1 (Nat.le_trans (Nat.mul_le_mul vu vq) hu2) hq
  have hrow : logRow u logKs 0 = some r := by
    rw [logKs_cut, logRow_app, eq, Option.bind_some]
    unfold logRow
    rw [show floatBits .quo .f64 4607182418800017408 4607182418800017408 = some 4607182418800017408 by decide +kernel]; simp only [Option.bind_some]
    rw [ey]; simp only [Option.bind_some]
    rw [er]; rfl
  obtain ⟨r2, r3⟩ := abs_of (r := r) (by omega)
  have vr := VD_mono r1 (by omega)
  obtain ⟨m, em, _, m3, m4⟩ := mulD (x := s) (y := r) (c := 0) (e := m1) (by omega) (by omega) hU (by omega) (by rw [n0, Nat.zero_mul]; exact Nat.zero_le _) (by rw [r2]; exact Nat.le_trans (Nat.mul_le_mul vs vr) hm)
  rw [r3, Bool.xor_false] at m4
  have vm := VD_mono m3 (by omega)
  obtain ⟨c, ec, _, c3, c4⟩ := mulD (x := 4611686018427387904) (y := m) (c := 0) (e := b1) (by decide) (by omega) hU (by omega) (by rw [n0, Nat.zero_mul]; exact Nat.zero_le _) (by rw [show absD 4611686018427387904 = 4611686018427387904 by decide]; exact Nat.le_trans (Nat.mul_le_mul_left _ vm) hbb)
  rw [show sgnD 4611686018427387904 = false by decide, Bool.false_xor] at c4
  exact ⟨s, u, r, m, c, es, eu, hrow, em, ec, c3, by rw [c4, m4, s3]⟩
/-- the logarithm of a number from 1 to 1 and a1 -/
theorem log_lo {y a1 s1 u1 u2 q1 m1 b1 : Nat} {U : Nat} (hU : U = 1074) (hy1 : 4607182418800017408 ≤ y) (hy2 : y ≤ 4611686018427387904) (ha1 : a1 < 9218868437227405312) (hya : VD y ≤ VD 4607182418800017408 + VD a1)
    (hs : VD a1 * 2 ^ U ≤ VD s1 * VD 4611686018427387904) (hs1 : s1 < 9218868437227405312)
    (hu : VD s1 * VD s1 ≤ VD u1 * 2 ^ U) (hu1 : u1 ≤ 4598175219545276416) (hu2 : VD u1 * VD 4611686018427387904 ≤ VD u2 * 2 ^ U) (hu3 : u2 < 9218868437227405312) (hq : VD 4607182418800017408 + VD u2 ≤ VD q1) (hq1 : q1 < 9218868437227405312)
    (hm : VD s1 * VD q1 ≤ VD m1 * 2 ^ U) (hm1 : m1 < 9218868437227405312) (hbb : VD 4611686018427387904 * VD m1 ≤ VD b1 * 2 ^ U) (hb1 : b1 < 9218868437227405312) :
    ∃ d, logTail y 0 = some d ∧ d ≤ b1 := by
  have n0 : VD 0 = 0 := VD_nought
  obtain ⟨y1, y2⟩ := abs_of (r := y) (by omega)
  obtain ⟨o1, o2⟩ := abs_of (r := 4607182418800017408) (by decide)
  obtain ⟨p1, p2⟩ := opp_parts 4607182418800017408
  rw [o1] at p1
  rw [o2] at p2
  have vy := VD_mono hy1 (by omega)
  have vy2 := VD_mono hy2 (by decide)
  obtain ⟨T, hT⟩ : ∃ T : Nat, VD 4607182418800017408 + T = VD y := ⟨VD y - VD 4607182418800017408, by omega⟩
  obtain ⟨a, ea, _, ea2⟩ := add_pos (x := y) (y := oppD 4607182418800017408) (c := 0) (e := a1) (T := T) (by omega) (by rw [p1]; decide) (by
    unfold totD
    rw [y1, y2, p1, p2]
    simp
    omega) (by intro _; rw [y2]; rfl) (by rw [n0]; omega) (by omega) (by omega)
  have ha : floatBits .sub .f64 y 4607182418800017408 = some a := by rw [sub_opp (by decide)]; exact ea
  obtain ⟨a2, a3⟩ := abs_of (r := a) (by omega)
  have va := VD_mono ea2 (by omega)
  have e4 : VD 4611686018427387904 + VD 4607182418800017408 ≤ VD 4616189618054758400 := by decide +kernel
  have e5 : VD 4611686018427387904 ≤ VD 4607182418800017408 + VD 4607182418800017408 := by decide +kernel
  obtain ⟨b, eb, b2, b3⟩ := add_pos (x := y) (y := 4607182418800017408) (c := 4611686018427387904) (e := 4616189618054758400) (T := VD y + VD 4607182418800017408) (by omega) (by decide) (by
    unfold totD
    rw [y1, y2, o1, o2]
    simp) (by intro _; rw [y2]; rfl) (by omega) (by decide) (by omega)
  have vb := VD_mono b2 (by omega)
  have e6 : VD 4611686018427387904 ≠ 0 := by decide +kernel
  obtain ⟨s, u, q, m, c, h1, h2, h3, h4, h5, h6, h7⟩ := log_mid (a := a) (b := b) hU (by omega) (by omega) (by omega) (by rw [a2]; exact Nat.le_trans (Nat.mul_le_mul_right _ va) (Nat.le_trans hs (Nat.mul_le_mul_left _ vb))) hs1 hu hu1 hu2 hu3 hq hq1 hm hm1 hbb
  rw [a3] at h7
  have hz : floatBits .mul .f64 0 4604418534313441775 = some 0 := by decide +kernel
  have vc := VD_mono h6 (by omega)
  obtain ⟨d, ed, _, d2⟩ := add_pos (x := c) (y := 0) (c := 0) (e := b1) (T := VD (absD c)) (by omega) (by decide) (by
    unfold totD
    rw [h7, show absD 0 = 0 by decide, show sgnD 0 = false by decide, n0]
    simp) (by intro _; rw [h7]; rfl) (by rw [n0]; omega) (by omega) vc
  refine ⟨d, ?_, d2⟩
  unfold logTail
  simp only [ha, eb, h1, h2, h3, h4, h5, hz, ed, Option.bind_some]
/-- the logarithm of a number from 1.5 to 2, halved before -/
theorem log_hi {y : Nat} (hy1 : 4604930618986332160 ≤ y) (hy2 : y ≤ 4607182418800017408) : ∃ d, logTail y 4607182418800017408 = some d ∧ d ≤ 4604508406521266176 := by
  obtain ⟨U, hU⟩ : ∃ U, U = 1074 := ⟨_, rfl⟩
  have n0 : VD 0 = 0 := VD_nought
  have v1 := VD_one hU
  obtain ⟨y1, y2⟩ := abs_of (r := y) (by omega)
  obtain ⟨o1, o2⟩ := abs_of (r := 4607182418800017408) (by decide)
  obtain ⟨p1, p2⟩ := opp_parts 4607182418800017408
  rw [o1] at p1
  rw [o2] at p2
  have vy := VD_mono hy1 (by omega)
  have vy2 := VD_mono hy2 (by decide)
  have vyv : valD y = (VD y : Int) := by rw [val_pos y2, y1]
  have vov : valD (oppD 4607182418800017408) = -(VD 4607182418800017408 : Int) := by rw [val_neg p2, p1]
  have e0 : VD 4607182418800017408 ≤ VD 4604930618986332160 + VD 4598175219545276416 := by decide +kernel
  have q1 : valD 13821547256400052224 = -(VD 4598175219545276416 : Int) := by decide +kernel
  have q2 : valD 0 = 0 := by decide +kernel
  obtain ⟨a, ea, fa, a1, a2⟩ := addD (x := y) (y := oppD 4607182418800017408) (c := 13821547256400052224) (e := 0) (by omega) (by rw [p1]; decide) (by decide) (by decide) (by omega) (by omega)
  rw [q1] at a1
  rw [q2] at a2
  have ha : floatBits .sub .f64 y 4607182418800017408 = some a := by rw [sub_opp (by decide)]; exact ea
  have e4 : VD 4607182418800017408 + VD 4607182418800017408 ≤ VD 4611686018427387904 := by decide +kernel
  obtain ⟨b, eb, b2, b3⟩ := add_pos (x := y) (y := 4607182418800017408) (c := 4607182418800017408) (e := 4611686018427387904) (T := VD y + VD 4607182418800017408) (by omega) (by decide) (by
    unfold totD
    rw [y1, y2, o1, o2]
    simp) (by intro _; rw [y2]; rfl) (by omega) (by decide) (by omega)
  have vb := VD_mono b2 (by omega)
  have e6 : VD 4607182418800017408 ≠ 0 := by decide +kernel
  have key : ∃ s u q m c, floatBits .quo .f64 a b = some s ∧ floatBits .mul .f64 s s = some u ∧ logRow u logKs 0 = some q ∧ floatBits .mul .f64 s q = some m ∧ floatBits .mul .f64 4611686018427387904 m = some c ∧ absD c < 9218868437227405312 ∧ -(VD 4603241769126068224 : Int) ≤ valD c ∧ valD c ≤ 0 := by
    cases hsa : sgnD a with
    | true =>
      have hva : VD (absD a) ≤ VD 4598175219545276416 := by rw [val_neg hsa] at a1; omega
      obtain ⟨s, u, q, m, c, h1, h2, h3, h4, h5, h6, h7⟩ := log_mid (a := a) (b := b) (s1 := 4598175219545276416) (u1 := 4589168020290535424) (u2 := 4593671619917905920) (q1 := 4607745368753438720) (m1 := 4598738169498697728) (b1 := 4603241769126068224) hU fa (by omega) (by omega) (Nat.mul_le_mul hva (by rw [← v1]; exact vb)) (by decide) (by rw [hU]; decide +kernel) (by decide) (by rw [hU]; decide +kernel) (by decide) (by decide +kernel) (by decide) (by rw [hU]; decide +kernel) (by decide) (by rw [hU]; decide +kernel)
      have vc := VD_mono h6 (by decide)
      rw [hsa] at h7
      exact ⟨s, u, q, m, c, h1, h2, h3, h4, h5, by omega, by rw [val_neg h7]; omega, by rw [val_neg h7]; omega⟩
    | false =>
      have hva : VD (absD a) = 0 := by rw [val_pos hsa] at a2; omega
      obtain ⟨s, u, q, m, c, h1, h2, h3, h4, h5, h6, h7⟩ := log_mid (a := a) (b := b) (s1 := 0) (u1 := 0) (u2 := 0) (q1 := 4607182418800017408) (m1 := 0) (b1 := 0) hU fa (by omega) (by omega) (by rw [hva, Nat.zero_mul]; exact Nat.zero_le _) (by decide) (by rw [n0, Nat.zero_mul]; exact Nat.zero_le _) (by decide) (by rw [n0, Nat.zero_mul]; exact Nat.zero_le _) (by decide) (by rw [n0]; omega) (by decide) (by rw [n0, Nat.zero_mul]; exact Nat.zero_le _) (by decide) (by rw [n0, Nat.mul_zero]; exact Nat.zero_le _)
      have vc : VD (absD c) = 0 := by rw [show absD c = 0 by omega]; exact n0
      rw [hsa] at h7
      exact ⟨s, u, q, m, c, h1, h2, h3, h4, h5, by omega, by rw [val_pos h7, vc]; omega, by rw [val_pos h7, vc]; omega⟩
  obtain ⟨s, u, q, m, c, h1, h2, h3, h4, h5, fc, c1, c2⟩ := key
  have hz : floatBits .mul .f64 4607182418800017408 4604418534313441775 = some 4604418534313441775 := by decide +kernel
  have e7 : VD 4603241769126068224 ≤ VD 4604418534313441775 := by decide +kernel
  have e8 : VD 4604418534313441775 ≤ VD 4604508406521266176 := by decide +kernel
  have vl : valD 4604418534313441775 = (VD 4604418534313441775 : Int) := by decide +kernel
  obtain ⟨T, hT⟩ : ∃ T : Nat, valD c + (VD 4604418534313441775 : Int) = (T : Int) := ⟨(valD c + (VD 4604418534313441775 : Int)).toNat, by omega⟩
  obtain ⟨d, ed, _, d2⟩ := add_pos (x := c) (y := 4604418534313441775) (c := 0) (e := 4604508406521266176) (T := T) fc (by decide) (by rw [tot_val, vl]; exact hT) (by intro _; rw [show sgnD 4604418534313441775 = false by decide, Bool.and_false]) (by rw [n0]; omega) (by decide) (by omega)
  refine ⟨d, ?_, d2⟩
  unfold logTail
  simp only [ha, eb, h1, h2, h3, h4, h5, hz, ed, Option.bind_some]
theorem narrow_pos {d c e : Nat} (hd : d ≤ e) (he : e < 9218868437227405312) (hc : c < 2139095040) (h : VD e ≤ VF c * 2 ^ 925) : ∃ r, floatToFloatBits .f64 d .f32 = some r ∧ sgnF r = false ∧ absF r ≤ c := by
  obtain ⟨V, hV⟩ : ∃ V, V = 925 := ⟨_, rfl⟩
  obtain ⟨d1, d2⟩ := abs_of (r := d) (by omega)
  have vd := VD_mono hd (by omega)
  obtain ⟨r, hr, hr1, hr2, _⟩ := narrow_ab (x := d) (c := c) (by omega) hc hV (by rw [d1, hV]; exact Nat.le_trans vd h)
  exact ⟨r, hr, by rw [hr2, d2], hr1⟩
/-- the logarithm of a number from 1 to 2 -/
theorem logNum_45 {z : Nat} (h1 : 1065353216 ≤ z) (h2 : z ≤ 1073741824) : ∃ r, logNum z = some r ∧ sgnF r = false ∧ absF r ≤ 1060372480 := by
  obtain ⟨U, hU⟩ : ∃ U, U = 1074 := ⟨_, rfl⟩
  obtain ⟨y, hy, hy1, hy2⟩ := widen_12 h1 h2
  have key : ∃ d, logTail (halved y).1 (halved y).2 = some d ∧ d ≤ 4604508406521266176 := by
    unfold halved
    split
    · exact log_hi (by simp only; omega) (by simp only; omega)
    · rename_i h
      have vy := VD_mono (show y ≤ 4609434218613702656 by omega) (by decide)
      have e0 : VD 4609434218613702656 ≤ VD 4607182418800017408 + VD 4602678819172646912 := by decide +kernel
      obtain ⟨d, hd, hd1⟩ := log_lo (y := y) (a1 := 4602678819172646912) (s1 := 4598175219545276416) (u1 := 4589168020290535424) (u2 := 4593671619917905920) (q1 := 4607745368753438720) (m1 := 4598738169498697728) (b1 := 4603241769126068224) hU hy1 hy2 (by decide) (by omega) (by rw [hU]; decide +kernel) (by decide) (by rw [hU]; decide +kernel) (by decide) (by rw [hU]; decide +kernel) (by decide) (by decide +kernel) (by decide) (by rw [hU]; decide +kernel) (by decide) (by rw [hU]; decide +kernel) (by decide)
      exact ⟨d, hd, by omega⟩
  obtain ⟨d, hd, hd1⟩ := key
  obtain ⟨r, hr, hr1, hr2⟩ := narrow_pos (c := 1060372480) hd1 (by decide) (by decide) (by decide +kernel)
  refine ⟨r, ?_, hr1, hr2⟩
  unfold logNum
  rw [hy]; simp only [Option.bind_some]
  rw [hd]; exact hr
theorem gapNum_45 {d : Nat} (h : d = 0 ∨ sgnF d = true) : ∃ r, gapNum d = some r ∧ sgnF r = false ∧ absF r ≤ 1060372480 := by
  obtain ⟨e, he, he1⟩ := expNum_some h
  obtain ⟨z, hz, hz1, hz2⟩ := add_one_12 he1
  obtain ⟨r, hr, hr1⟩ := logNum_45 hz1 hz2
  refine ⟨r, ?_, hr1⟩
  unfold gapNum
  rw [he]; simp only [Option.bind_some]
  rw [hz]; exact hr

end Go.Proofs.Ytopeidmafalklaa


namespace Go.Proofs.Ytopeidmafalklaa
open Go.RowKit


theorem spec_l01Narrow_c (w : World) (x r : Nat) (h : floatToFloatBits .f64 x .f32 = some r) : Calls Try.prog 86 #[.float .f64 x] w fun e w' => e = .returned (.float .f32 r) ∧ w' = w := by
  go_enter Try.func86, Try.ntmps86
  go_wp2
  go_ret
  have h0 : fcvd .f64 x .f32 = 0 := by unfold fcvd; rw [h]
  have h1 : ∀ t d, fcv .f64 x .f32 t d = r := fun t d => by unfold fcv; rw [h]
  rw [h0]
  refine ⟨?_, rfl⟩
  rw [h1]
  rfl

end Go.Proofs.Ytopeidmafalklaa


namespace Go.Proofs.Ytopeidmafalklaa
open Ieee Go.RowKit

theorem fl_inv {k : FloatKind} {x y : Nat} (h : fl k x = some y) : x = y ∧ nanB k x = false := by
  unfold fl at h
  split at h
  · cases h
  · rename_i hn
    cases h
    exact ⟨rfl, by simpa using hn⟩
theorem f2f_nn {s k : FloatKind} {b r : Nat} (hne : s ≠ k) (h : floatToFloatBits s b k = some r) : nanB k r = false := by
  unfold floatToFloatBits at h
  rw [if_neg hne] at h
  split at h
  · cases h
  · cases h; exact nanB_write k _ rfl
  · split at h
    · cases h
    · cases h; exact nanB_write k _ rfl
theorem nanConv_nan32 (b t : Nat) : nanB .f32 ((Question.nanConv .f32 b).cut t) = true := nanBits_nan .f32 0 0 t
theorem f2f_nan {s k : FloatKind} {b : Nat} (hne : s ≠ k) (hn : nanB s b = true) : floatToFloatBits s b k = none := by
  unfold floatToFloatBits
  rw [if_neg hne]
  obtain ⟨g, u, e⟩ := isNaN_cases hn
  have e' : s.decode b = .nan g u := e
  rw [e']
/-- narrowing where the number has a value -/
theorem fl_narrow {x : Nat} (h : ∀ y, fl .f64 x = some y → ∃ r, floatToFloatBits .f64 y .f32 = some r) (t : Tape) (d : Nat) : fl .f32 (fcv .f64 x .f32 t d) = (fl .f64 x).bind fun y => floatToFloatBits .f64 y .f32 := by
  by_cases hn : nanB .f64 x = true
  · have h0 := f2f_nan (s := .f64) (k := .f32) (by decide) hn
    have e : fcv .f64 x .f32 t d = (Question.nanConv .f32 x).cut (t d (.nanConv .f32 x)) := by simp [fcv, h0, hn]
    rw [e, fl_nan (nanConv_nan32 ..), fl_nan hn]
    rfl
  · have hn' : nanB .f64 x = false := by simpa using hn
    obtain ⟨r, hr⟩ := h x (fl_nn hn')
    have e : fcv .f64 x .f32 t d = r := by simp [fcv, hr]
    rw [e, fl_nn (f2f_nn (by decide) hr), fl_nn hn']
    exact hr.symm
theorem fop_some {op : BinOp} {k : FloatKind} (a b : Nat) : fop op k (some a) (some b) = floatBits op k a b := rfl
theorem fop_none {op : BinOp} {k : FloatKind} (x : Option Nat) : fop op k x none = none := by cases x <;> rfl
theorem none_fop {op : BinOp} {k : FloatKind} (x : Option Nat) : fop op k none x = none := rfl

theorem fres_one {op : BinOp} {k : FloatKind} {x y r : Nat} (h : floatBits op k x y = some r) : ∀ t d, fres op k x y t d = r := fun t d => by simp [fres, h]
theorem fdr_one {op : BinOp} {k : FloatKind} {x y r : Nat} (h : floatBits op k x y = some r) : fdr op k x y = 0 := by simp [fdr, h]
theorem fcv_val {s k : FloatKind} {b r : Nat} (h : floatToFloatBits s b k = some r) : ∀ t d, fcv s b k t d = r := fun t d => by simp [fcv, h]
theorem fcvd_val {s k : FloatKind} {b r : Nat} (h : floatToFloatBits s b k = some r) : fcvd s b k = 0 := by simp [fcvd, h]

/-- the gap of a join -/
def Gap (d : Nat) : Prop := nanB .f32 d = true ∨ (absF d < 2139095040 ∧ (d = 0 ∨ sgnF d = true)) ∨ d = 4286578688
def farB (d : Option Nat) : Bool := d.any fun d => decide (sgnF d = true ∧ 1128792064 < absF d)
def expO (d : Option Nat) : Option Nat := d.bind expNum
theorem fin_nn {d : Nat} (h : absF d < 2139095040) : nanB .f32 d = false := by
  rw [nanB_eq, decide_eq_false_iff_not]
  show ¬ Ieee.single.infRung < d % Ieee.single.signWeight
  rw [ir32, sw32]
  unfold absF at h
  omega
theorem Gap.high {d : Nat} (h : Gap d) : (FloatKind.f32.format.order d 1128792064 == some Ordering.gt) = false := by
  rcases h with h | ⟨h1, h2⟩ | rfl
  · rw [order_nan _ _ _ h]; rfl
  · exact gap_high h1 h2
  · decide
theorem Gap.low {d : Nat} (h : Gap d) : (FloatKind.f32.format.order d 3276275712 == some Ordering.lt) = farB (fl .f32 d) := by
  rcases h with h | ⟨h1, h2⟩ | rfl
  · rw [order_nan _ _ _ h, fl_nan h]; rfl
  · rw [fl_nn (fin_nn h1)]; exact gap_low h1 h2
  · decide
theorem expO_far {x : Option Nat} (h : farB x = true) : expO x = some 0 := by
  cases x with
  | none => cases h
  | some d =>
    have h2 : sgnF d = true ∧ 1128792064 < absF d := of_decide_eq_true h
    show expNum d = some 0
    unfold expNum
    rw [if_pos h2]
/-- a step of the row -/
def expStepO (t p : Option Nat) (k : Nat) : Option Nat := fop .add .f64 (some 4607182418800017408) (fop .quo .f64 (fop .mul .f64 t p) (some k))
def expRowO (t : Option Nat) (i : Nat) : Option Nat := (expKs.take i).foldl (expStepO t) (some 4607182418800017408)
def sqO (p : Option Nat) : Nat → Option Nat
  | 0 => p
  | n + 1 => fop .mul .f64 (sqO p n) (sqO p n)
def expWideO (y : Option Nat) : Option Nat := sqO (expRowO (fop .quo .f64 y (some 4643211215818981376)) 12) 8
theorem expFold_none (t : Option Nat) : ∀ ks : List Nat, ks.foldl (expStepO t) none = none
  | [] => rfl
  | k :: ks => by
    rw [List.foldl_cons]
    have : expStepO t none k = none := by unfold expStepO; rw [fop_none, none_fop, fop_none]
    rw [this]
    exact expFold_none t ks
theorem expFold (t : Nat) : ∀ (ks : List Nat) (p : Nat), ks.foldl (expStepO (some t)) (some p) = expRow t ks p
  | [], p => rfl
  | k :: ks, p => by
    rw [List.foldl_cons]
    unfold expRow expStepO
    rw [fop_some]
    cases h1 : floatBits .mul .f64 t p with
    | none => rw [none_fop, fop_none]; exact expFold_none _ ks
    | some a =>
      rw [fop_some]
      simp only [Option.bind_some]
      cases h2 : floatBits .quo .f64 a k with
      | none => rw [fop_none]; exact expFold_none _ ks
      | some b =>
        rw [fop_some]
        simp only [Option.bind_some]
        cases h3 : floatBits .add .f64 4607182418800017408 b with
        | none => exact expFold_none _ ks
        | some r => exact expFold t ks r
theorem expFold_nan : ∀ (ks : List Nat) (p : Option Nat), ks ≠ [] → ks.foldl (expStepO none) p = none
  | [], _, h => absurd rfl h
  | k :: ks, p, _ => by
    rw [List.foldl_cons]
    have : expStepO none p k = none := by unfold expStepO; rw [none_fop, none_fop, fop_none]
    rw [this]
    exact expFold_none none ks
theorem sqO_none : ∀ n, sqO none n = none
  | 0 => rfl
  | n + 1 => by unfold sqO; rw [sqO_none n]; rfl
theorem sqO_out (p : Option Nat) : ∀ n, sqO p (n + 1) = sqO (fop .mul .f64 p p) n
  | 0 => rfl
  | n + 1 => by
    show fop .mul .f64 (sqO p (n + 1)) (sqO p (n + 1)) = _
    rw [sqO_out p n]
    rfl
theorem sqO_some : ∀ (n p : Nat), sqO (some p) n = sqRow n p
  | 0, _ => rfl
  | n + 1, p => by
    rw [sqO_out, fop_some]
    unfold sqRow
    cases h : floatBits .mul .f64 p p with
    | none => exact sqO_none n
    | some r => exact sqO_some n r
theorem expKs12 : expKs.take 12 = expKs := by decide
theorem expWideO_some (y : Nat) : expWideO (some y) = expWide y := by
  unfold expWideO expWide expRowO
  rw [fop_some, expKs12]
  cases h : floatBits .quo .f64 y 4643211215818981376 with
  | none =>
    rw [expFold_nan _ _ (by decide), sqO_none]
    rfl
  | some t =>
    rw [expFold]
    simp only [Option.bind_some]
    cases h2 : expRow t expKs 4607182418800017408 with
    | none => exact sqO_none 8
    | some p => exact sqO_some 8 p
theorem expWideO_eq (y : Option Nat) : sqO (expRowO (fop .quo .f64 y (some 4643211215818981376)) 12) 8 = expWideO y := rfl
theorem expWideO_none : expWideO none = none := by
  unfold expWideO expRowO
  rw [none_fop, expKs12, expFold_nan _ _ (by decide), sqO_none]
/-- the whole numbers as doubles -/
def kF (n : Nat) : Nat := floatOfInt .f64 (n : Int)
theorem kF_ks : ∀ i : Fin 12, expKs[i.val]? = some (kF (12 - i.val)) := by decide +kernel
theorem expRowO_succ (t : Option Nat) {n : Nat} (h : n < 12) : expRowO t (12 - n) = expStepO t (expRowO t (12 - (n + 1))) (kF (n + 1)) := by
  have hk := kF_ks ⟨12 - (n + 1), by omega⟩
  unfold expRowO
  rw [show 12 - n = 12 - (n + 1) + 1 by omega, List.take_add_one, List.foldl_append, hk, show 12 - (12 - (n + 1)) = n + 1 by omega]
  rfl
theorem expRowO_zero (t : Option Nat) : expRowO t (12 - 12) = some 4607182418800017408 := by
  unfold expRowO
  rw [Nat.sub_self, List.take_zero, List.foldl_nil]
theorem kF_test {n : Nat} (h : n ≤ 12) : (FloatKind.f64.format.order (kF n) 4607182418800017408 == some Ordering.gt || FloatKind.f64.format.order (kF n) 4607182418800017408 == some Ordering.eq) = decide (1 ≤ n) := k_test1 ⟨n, by omega⟩
theorem kF_down {n : Nat} (h : n < 12) : floatBits .sub .f64 (kF (n + 1)) 4607182418800017408 = some (kF n) := k_down1 ⟨n, h⟩
theorem kF_lt : ∀ n : Fin 12, kF n.val < kF (n.val + 1) := by decide +kernel
theorem kF_12 : kF 12 = 4622945017495814144 := by decide +kernel
/-- a slot's word -/
def floOf : Value → Nat
  | .float _ b => b
  | _ => 0
theorem floOf_float (k : FloatKind) (b : Nat) : floOf (.float k b) = b := rfl
theorem floOf_lt {n : Nat} (h : n < 12) : floOf (.float .f64 (kF n)) < floOf (.float .f64 (kF (n + 1))) := by
  rw [floOf_float, floOf_float]
  have h2 := kF_lt ⟨n, h⟩
  simp only at h2
  exact h2
theorem sqO_succ (p : Option Nat) (n : Nat) : sqO p (n + 1) = fop .mul .f64 (sqO p n) (sqO p n) := rfl
theorem kF_nn {n : Nat} (h : n ≤ 12) : fl .f64 (kF n) = some (kF n) := by
  have : ∀ n : Fin 13, nanB .f64 (kF n.val) = false := by decide +kernel
  exact fl_nn (this ⟨n, by omega⟩)
theorem fl_one : fl .f64 4607182418800017408 = some 4607182418800017408 := by decide
theorem fl0d : fl .f64 0 = some 0 := by decide
theorem fl_256 : fl .f64 4643211215818981376 = some 4643211215818981376 := by decide
theorem exp_value {d b : Nat} (hg : Gap d) (hf : farB (fl .f32 d) = false) (hb : fl .f64 b = expWideO (widen (fl .f32 d))) (t : Tape) (k : Nat) : fl .f32 (fcv .f64 b .f32 t k) = expO (fl .f32 d) := by
  by_cases hn : nanB .f32 d = true
  · rw [fl_nan hn] at hb ⊢
    have : widen none = none := rfl
    rw [this, expWideO_none] at hb
    rw [fl_narrow (fun y hy => by rw [hb] at hy; cases hy), hb]
    rfl
  · have hfl : fl .f32 d = some d := fl_nn (by simpa using hn)
    rw [hfl] at hb hf ⊢
    have hgap : d = 0 ∨ sgnF d = true := by
      rcases hg with h | ⟨_, h⟩ | h
      · exact absurd h hn
      · exact h
      · subst h; exact .inr (by decide)
    obtain ⟨r, hr, _⟩ := expNum_some hgap
    have hr' := hr
    unfold expNum at hr'
    have hnf : ¬ (sgnF d = true ∧ 1128792064 < absF d) := of_decide_eq_false hf
    rw [if_neg hnf] at hr'
    cases hy : floatToFloatBits .f32 d .f64 with
    | none => rw [hy] at hr'; cases hr'
    | some y =>
      rw [hy] at hr'
      simp only [Option.bind_some] at hr'
      cases hp : expWide y with
      | none => rw [hp] at hr'; cases hr'
      | some p =>
        rw [hp] at hr'
        simp only [Option.bind_some] at hr'
        have hw : widen (some d) = some y := hy
        rw [hw, expWideO_some, hp] at hb
        rw [fl_narrow (fun z hz => by rw [hb] at hz; cases hz; exact ⟨r, hr'⟩), hb]
        show floatToFloatBits .f64 p .f32 = expNum d
        rw [hr, hr']


set_option maxRecDepth 100000 in
set_option maxHeartbeats 1000000 in
theorem impl_ExpNumber_c (w : World) (d : Nat) (hg : Gap d) : Calls Try.prog 79 #[.float .f32 d] w fun e w' => ∃ v, e = .returned (.float .f32 v) ∧ fl .f32 v = expO (fl .f32 d) ∧ ∃ q, w' = w.drewN q := by
  have h1 := hg.high
  have h2 := hg.low
  by_cases hf : farB (fl .f32 d) = true
  · rw [hf] at h2
    go_enter Try.func79, Try.ntmps79
    go_wp2
    go_ret
    exact ⟨0, rfl, by rw [fl0]; exact (expO_far hf).symm, 0, rfl⟩
  · have hf' : farB (fl .f32 d) = false := by simpa using hf
    rw [hf'] at h2
    go_enter Try.func79, Try.ntmps79
    go_wp2
    obtain ⟨t, ht⟩ : ∃ t : Nat, fres .quo .f64 (fcv .f32 d .f64 w.tape w.drawn) 4643211215818981376 w.tape (w.drewN (fcvd .f32 d .f64)).drawn = t := ⟨_, rfl⟩
    have hT : fl .f64 t = fop .quo .f64 (widen (fl .f32 d)) (some 4643211215818981376) := by rw [← ht, fl_fres, fl_widen, fl_256]
    rw [ht]
    obtain ⟨q0, hq0⟩ : ∃ q, fcvd .f32 d .f64 + fdr .quo .f64 (fcv .f32 d .f64 w.tape w.drawn) 4643211215818981376 = q := ⟨_, rfl⟩
    rw [hq0]
    have HT := Lib.hid hT
    clear hT ht hq0 h1 h2 hf
    go_loopw [4, 5] (fun p k wr => ∃ n q b : Nat, n ≤ 12 ∧ k = .float .f64 (kF n) ∧ p = .float .f64 b ∧ fl .f64 b = expRowO (fl .f64 t) (12 - n) ∧ wr = w.drewN q) (fun _ k _ => floOf k)
    case atStart => exact ⟨12, q0, 4607182418800017408, Nat.le_refl _, by rw [kF_12], rfl, by rw [fl_one]; exact (expRowO_zero _).symm, rfl⟩
    case round =>
      obtain ⟨n, q, b, hn, rfl, rfl, hb, rfl⟩ := hrel
      have HB := Lib.hid hb
      clear hb
      have htest := kF_test hn
      cases n with
      | zero =>
        rw [decide_eq_false (by omega)] at htest
        go_wp2
        go_loopw [4, 27] (fun p k wr => ∃ n q b : Nat, n ≤ 8 ∧ k = .int .i64 n ∧ p = .float .f64 b ∧ fl .f64 b = sqO (expRowO (fl .f64 t) 12) n ∧ wr = w.drewN q) (fun _ k _ => 8 - (intOf k).toNat)
        case atStart => exact ⟨0, q, b, by omega, rfl, rfl, HB.out, rfl⟩
        case round =>
          clear HB
          obtain ⟨n, q, b, hn, rfl, rfl, hb, rfl⟩ := hrel
          have HB := Lib.hid hb
          clear hb
          by_cases hlt : n < 8
          · go_wp2
            go_roundw
            case rel => exact ⟨n + 1, _, _, by omega, by go_num, rfl, by rw [fl_fres, HB.out, sqO_succ], rfl⟩
            case measure => simp [intOf]; omega
          · obtain rfl : n = 8 := by omega
            go_wp2
            go_ret
            refine ⟨_, rfl, exp_value hg hf' ?_ _ _, _, rfl⟩
            rw [HB.out, HT.out]
            exact expWideO_eq _
      | succ n =>
        rw [decide_eq_true (by omega)] at htest
        have hd := kF_down (n := n) (by omega)
        have hd1 : ∀ t d, fres .sub .f64 (kF (n + 1)) 4607182418800017408 t d = kF n := fres_one hd
        have hd2 : fdr .sub .f64 (kF (n + 1)) 4607182418800017408 = 0 := fdr_one hd
        clear hd
        go_wp2
        go_roundw
        case rel => exact ⟨n, _, _, by omega, rfl, rfl, by rw [fl_fres, fl_fres, fl_fres, HB.out, fl_one, kF_nn hn]; exact (expRowO_succ _ (show n < 12 by omega)).symm, rfl⟩
        case measure => exact floOf_lt (by omega)


set_option maxRecDepth 100000 in
set_option maxHeartbeats 1000000 in
theorem spec_l01ExpWide_c (w : World) (y : Nat) (far : Bool) (h1 : (FloatKind.f64.format.order y 4641240890982006784 == some Ordering.gt) = false) (h2 : (FloatKind.f64.format.order y 13864612927836782592 == some Ordering.lt) = far) :
    Calls Try.prog 88 #[.float .f64 y] w fun e w' => ∃ v, e = .returned (.float .f64 v) ∧ fl .f64 v = (if far then some 0 else expWideO (fl .f64 y)) ∧ ∃ q, w' = w.drewN q := by
  by_cases hn : nanB .f64 y = true
  · have h0 : FloatKind.f64.format.order y y = none := order_nan _ _ _ hn
    have hfar : far = false := by rw [← h2, order_nan _ _ _ hn]; rfl
    subst hfar
    go_enter Try.func88, Try.ntmps88
    go_wp2
    go_ret
    exact ⟨y, rfl, by rw [fl_nan hn, expWideO_none], 0, rfl⟩
  have h0 : FloatKind.f64.format.order y y = some .eq := order_self _ _ (by simpa using hn)
  cases far
  · go_enter Try.func88, Try.ntmps88
    go_wp2
    obtain ⟨t, ht⟩ : ∃ t : Nat, fres .quo .f64 y 4643211215818981376 w.tape w.drawn = t := ⟨_, rfl⟩
    have hT : fl .f64 t = fop .quo .f64 (fl .f64 y) (some 4643211215818981376) := by rw [← ht, fl_fres, fl_256]
    rw [ht]
    obtain ⟨q0, hq0⟩ : ∃ q, fdr .quo .f64 y 4643211215818981376 = q := ⟨_, rfl⟩
    rw [hq0]
    have HT := Lib.hid hT
    clear hT ht hq0 h0 h1 h2 hn
    go_loopw [4, 5] (fun p k wr => ∃ n q b : Nat, n ≤ 12 ∧ k = .int .i64 n ∧ p = .float .f64 b ∧ fl .f64 b = expRowO (fl .f64 t) (12 - n) ∧ wr = w.drewN q) (fun _ k _ => (intOf k).toNat)
    case atStart => exact ⟨12, q0, 4607182418800017408, Nat.le_refl _, rfl, rfl, by rw [fl_one]; exact (expRowO_zero _).symm, rfl⟩
    case round =>
      obtain ⟨n, q, b, hn, rfl, rfl, hb, rfl⟩ := hrel
      have HB := Lib.hid hb
      clear hb
      cases n with
      | zero =>
        go_wp2
        go_loopw [4, 6] (fun p k wr => ∃ n q b : Nat, n ≤ 8 ∧ k = .int .i64 n ∧ p = .float .f64 b ∧ fl .f64 b = sqO (expRowO (fl .f64 t) 12) n ∧ wr = w.drewN q) (fun _ k _ => 8 - (intOf k).toNat)
        case atStart => exact ⟨0, q, b, by omega, rfl, rfl, HB.out, rfl⟩
        case round =>
          clear HB
          obtain ⟨n, q, b, hn, rfl, rfl, hb, rfl⟩ := hrel
          have HB := Lib.hid hb
          clear hb
          by_cases hlt : n < 8
          · go_wp2
            go_roundw
            case rel => exact ⟨n + 1, _, _, by omega, by go_num, rfl, by rw [fl_fres, HB.out, sqO_succ], rfl⟩
            case measure => simp [intOf]; omega
          · obtain rfl : n = 8 := by omega
            go_wp2
            go_ret
            refine ⟨_, rfl, ?_, _, rfl⟩
            rw [HB.out, HT.out]
            exact expWideO_eq _
      | succ n =>
        go_wp2
        go_roundw
        case rel => exact ⟨n, _, _, by omega, by go_num, rfl, by rw [fl_fres, fl_fres, fl_fres, HB.out, fl_one, show floatOfInt .f64 ((n : Int) + 1) = kF (n + 1) from rfl, kF_nn hn]; exact (expRowO_succ _ (show n < 12 by omega)).symm, rfl⟩
        case measure => simp [intOf]
  · go_enter Try.func88, Try.ntmps88
    go_wp2
    go_ret
    exact ⟨0, rfl, fl0d, 0, rfl⟩

end Go.Proofs.Ytopeidmafalklaa


namespace Go.Proofs.Ytopeidmafalklaa
open Ieee Go.RowKit


theorem spec_l01NarrowO_c (w : World) (x : Nat) (h : ∀ y, fl .f64 x = some y → ∃ r, floatToFloatBits .f64 y .f32 = some r) :
    Calls Try.prog 86 #[.float .f64 x] w fun e w' => ∃ v, e = .returned (.float .f32 v) ∧ (fl .f32 v = (fl .f64 x).bind fun y => floatToFloatBits .f64 y .f32) ∧ ∃ q, w' = w.drewN q := by
  go_enter Try.func86, Try.ntmps86
  go_wp2
  go_ret
  exact ⟨_, rfl, fl_narrow h _ _, _, rfl⟩

theorem exp_valueO {d b : Nat} (hg : Gap d) (hf : farB (fl .f32 d) = false) (hb : fl .f64 b = expWideO (widen (fl .f32 d))) : (∀ y, fl .f64 b = some y → ∃ r, floatToFloatBits .f64 y .f32 = some r) ∧ ((fl .f64 b).bind fun y => floatToFloatBits .f64 y .f32) = expO (fl .f32 d) := by
  by_cases hn : nanB .f32 d = true
  · rw [fl_nan hn] at hb ⊢
    have : widen none = none := rfl
    rw [this, expWideO_none] at hb
    rw [hb]
    exact ⟨fun y hy => (nomatch hy), rfl⟩
  · have hfl : fl .f32 d = some d := fl_nn (by simpa using hn)
    rw [hfl] at hb hf ⊢
    have hgap : d = 0 ∨ sgnF d = true := by
      rcases hg with h | ⟨_, h⟩ | h
      · exact absurd h hn
      · exact h
      · subst h; exact .inr (by decide)
    obtain ⟨r, hr, _⟩ := expNum_some hgap
    have hr' := hr
    unfold expNum at hr'
    have hnf : ¬ (sgnF d = true ∧ 1128792064 < absF d) := of_decide_eq_false hf
    rw [if_neg hnf] at hr'
    cases hy : floatToFloatBits .f32 d .f64 with
    | none => rw [hy] at hr'; cases hr'
    | some y =>
      rw [hy] at hr'
      simp only [Option.bind_some] at hr'
      cases hp : expWide y with
      | none => rw [hp] at hr'; cases hr'
      | some p =>
        rw [hp] at hr'
        simp only [Option.bind_some] at hr'
        have hw : widen (some d) = some y := hy
        rw [hw, expWideO_some, hp] at hb
        rw [hb]
        refine ⟨fun z hz => by cases hz; exact ⟨r, hr'⟩, ?_⟩
        show floatToFloatBits .f64 p .f32 = expNum d
        rw [hr, hr']
theorem exp_fin {d y b : Nat} (hg : Gap d) (hy : fl .f64 y = widen (fl .f32 d)) (hb : fl .f64 b = if farB (fl .f32 d) then some 0 else expWideO (fl .f64 y)) : ∀ z, fl .f64 b = some z → ∃ r, floatToFloatBits .f64 z .f32 = some r := by
  by_cases hf : farB (fl .f32 d) = true
  · rw [if_pos hf] at hb
    intro z hz
    rw [hb] at hz
    cases hz
    exact ⟨0, by decide⟩
  · rw [if_neg hf, hy] at hb
    exact (exp_valueO hg (by simpa using hf) hb).1
theorem exp_val {d y b : Nat} (hg : Gap d) (hy : fl .f64 y = widen (fl .f32 d)) (hb : fl .f64 b = if farB (fl .f32 d) then some 0 else expWideO (fl .f64 y)) : ((fl .f64 b).bind fun y => floatToFloatBits .f64 y .f32) = expO (fl .f32 d) := by
  by_cases hf : farB (fl .f32 d) = true
  · rw [if_pos hf] at hb
    rw [hb, expO_far hf]
    decide
  · rw [if_neg hf, hy] at hb
    exact (exp_valueO hg (by simpa using hf) hb).2
/-- the paper's tests of the widened gap -/
theorem Gap.wide {d y : Nat} (hg : Gap d) (hy : fl .f64 y = widen (fl .f32 d)) : (FloatKind.f64.format.order y 4641240890982006784 == some Ordering.gt) = false ∧ (FloatKind.f64.format.order y 13864612927836782592 == some Ordering.lt) = farB (fl .f32 d) := by
  rcases hg with h | ⟨h1, h2⟩ | rfl
  · rw [order_fl, order_fl, hy, fl_nan h]
    exact ⟨rfl, rfl⟩
  · rw [fl_nn (fin_nn h1)] at hy ⊢
    rcases h2 with rfl | h2
    · obtain ⟨t1, t2, t3⟩ := tests_zero
      have hw : widen (some 0) = some 0 := t1
      rw [hw] at hy
      obtain ⟨rfl, _⟩ := fl_inv hy
      exact ⟨t2, by rw [show FloatKind.f64.format = double from rfl, t3]; decide⟩
    · obtain ⟨z, hz, _, _, t1, t2⟩ := wide_tests h1 h2
      have hw : widen (some d) = some z := hz
      rw [hw] at hy
      obtain ⟨rfl, _⟩ := fl_inv hy
      exact ⟨t1, t2⟩
  · obtain ⟨t1, t2, t3, _⟩ := tests_inf
    have hfl : fl .f32 4286578688 = some 4286578688 := by decide
    have hw : widen (some 4286578688) = some 18442240474082181120 := t1
    rw [hfl, hw] at hy
    obtain ⟨rfl, _⟩ := fl_inv hy
    exact ⟨t2, by rw [show FloatKind.f64.format = double from rfl, t3, hfl]; decide⟩


set_option maxRecDepth 100000 in
theorem spec_l01Exp_c (w : World) (d : Nat) (hg : Gap d) : Calls Try.prog 74 #[.float .f32 d] w fun e w' => ∃ v, e = .returned (.float .f32 v) ∧ fl .f32 v = expO (fl .f32 d) ∧ ∃ q, w' = w.drewN q := by
  obtain ⟨y, hy⟩ : ∃ y, fcv .f32 d .f64 w.tape w.drawn = y := ⟨_, rfl⟩
  have hfy : fl .f64 y = widen (fl .f32 d) := by rw [← hy]; exact fl_widen d _ _
  obtain ⟨t1, t2⟩ := hg.wide hfy
  go_enter Try.func74, Try.ntmps74
  have HF := Lib.hid hfy
  have HG := Lib.hid hg
  have HC := Lib.hid fun W => spec_l01ExpWide_c W y _ t1 t2
  clear hfy hg t1 t2
  go_wp2_with (first
    | rw [hy]
    | (go_at_call 88; refine (HC.out _).mono ?_; rintro e w' ⟨b, rfl, hb, q, rfl⟩; have HB := Lib.hid hb; clear hb)
    | (go_at_call 86; refine (spec_l01NarrowO_c _ _ (exp_fin HG.out HF.out HB.out)).mono ?_; rintro e w' ⟨v, rfl, hv, q2, rfl⟩))
  go_ret
  exact ⟨_, rfl, hv.trans (exp_val HG.out HF.out HB.out), _, rfl⟩

end Go.Proofs.Ytopeidmafalklaa


namespace Go.Proofs.Ytopeidmafalklaa
open Ieee Go.RowKit

def logStepO (u q : Option Nat) (k : Nat) : Option Nat := fop .add .f64 (fop .quo .f64 (some 4607182418800017408) (some k)) (fop .mul .f64 u q)
def logRowO (u : Option Nat) (i : Nat) : Option Nat := (logKs.take i).foldl (logStepO u) (some 0)
theorem logFold {u : Nat} : ∀ (ks : List Nat) (q z : Nat), logRow u ks q = some z → ks.foldl (logStepO (some u)) (some q) = some z
  | [], q, z, h => h
  | k :: ks, q, z, h => by
    unfold logRow at h
    simp only [Option.bind_eq_some_iff] at h
    obtain ⟨i, h1, a, h2, r, h3, h4⟩ := h
    rw [List.foldl_cons]
    have : logStepO (some u) (some q) k = some r := by unfold logStepO; rw [fop_some, fop_some, h1, h2, fop_some, h3]
    rw [this]
    exact logFold ks r z h4
theorem logKs13 : logKs.take 13 = logKs := by decide
def logTailO (y e : Nat) : Option Nat :=
  fop .add .f64 (fop .mul .f64 (some 4611686018427387904) (fop .mul .f64 (fop .quo .f64 (fop .sub .f64 (some y) (some 4607182418800017408)) (fop .add .f64 (some y) (some 4607182418800017408)))
    (logRowO (fop .mul .f64 (fop .quo .f64 (fop .sub .f64 (some y) (some 4607182418800017408)) (fop .add .f64 (some y) (some 4607182418800017408))) (fop .quo .f64 (fop .sub .f64 (some y) (some 4607182418800017408)) (fop .add .f64 (some y) (some 4607182418800017408)))) 13)))
    (fop .mul .f64 (some e) (some 4604418534313441775))
theorem logTailO_eq {y e d : Nat} (h : logTail y e = some d) : logTailO y e = some d := by
  unfold logTail at h
  simp only [Option.bind_eq_some_iff] at h
  obtain ⟨a, h1, b, h2, s, h3, u, h4, q, h5, a', h6, b', h7, c, h8, h9⟩ := h
  unfold logTailO logRowO
  rw [fop_some, h1, fop_some, h2, fop_some, h3, fop_some, h4, logKs13, logFold _ _ _ h5, fop_some, h6, fop_some, h7, fop_some, h8, fop_some, h9]
/-- the odd numbers 25, 23, .. 1, -1 as doubles -/
def kL (n : Nat) : Nat := floatOfInt .f64 (2 * (n : Int) - 1)
theorem kL_ks : ∀ i : Fin 13, logKs[i.val]? = some (kL (13 - i.val)) := by decide +kernel
theorem logRowO_succ (u : Option Nat) {n : Nat} (h : n < 13) : logRowO u (13 - n) = logStepO u (logRowO u (13 - (n + 1))) (kL (n + 1)) := by
  have hk := kL_ks ⟨13 - (n + 1), by omega⟩
  unfold logRowO
  rw [show 13 - n = 13 - (n + 1) + 1 by omega, List.take_add_one, List.foldl_append, hk, show 13 - (13 - (n + 1)) = n + 1 by omega]
  rfl
theorem logRowO_zero (u : Option Nat) : logRowO u (13 - 13) = some 0 := by
  unfold logRowO
  rw [Nat.sub_self, List.take_zero, List.foldl_nil]
theorem kL_test {n : Nat} (h : n ≤ 13) : (FloatKind.f64.format.order (kL n) 4607182418800017408 == some Ordering.gt || FloatKind.f64.format.order (kL n) 4607182418800017408 == some Ordering.eq) = decide (1 ≤ n) := k_test2 ⟨n, by omega⟩
theorem kL_downF : ∀ n : Fin 13, floatBits .sub .f64 (kL (n.val + 1)) 4611686018427387904 = some (kL n.val) := by decide +kernel
theorem kL_down {n : Nat} (h : n < 13) : floatBits .sub .f64 (kL (n + 1)) 4611686018427387904 = some (kL n) := by
  have h2 := kL_downF ⟨n, h⟩
  simp only at h2
  exact h2
/-- a slot's number, none below nought -/
def posOf : Value → Nat
  | .float _ b => if 9223372036854775808 ≤ b then 0 else b
  | _ => 0
theorem posOf_float (k : FloatKind) (b : Nat) : posOf (.float k b) = if 9223372036854775808 ≤ b then 0 else b := rfl
theorem kL_ltF : ∀ n : Fin 13, (if 9223372036854775808 ≤ kL n.val then 0 else kL n.val) < (if 9223372036854775808 ≤ kL (n.val + 1) then 0 else kL (n.val + 1)) := by decide +kernel
theorem posOf_lt {n : Nat} (h : n < 13) : posOf (.float .f64 (kL n)) < posOf (.float .f64 (kL (n + 1))) := by
  rw [posOf_float, posOf_float]
  have h2 := kL_ltF ⟨n, h⟩
  simp only at h2
  exact h2
theorem kL_13 : kL 13 = 4627730092099895296 := by decide +kernel
theorem kL_nnF : ∀ n : Fin 14, nanB .f64 (kL n.val) = false := by decide +kernel
theorem kL_nn {n : Nat} (h : n ≤ 13) : fl .f64 (kL n) = some (kL n) := by
  have h2 := kL_nnF ⟨n, by omega⟩
  simp only at h2
  exact fl_nn h2
theorem kL_eq {n : Nat} {k : Int} (h : k = 2 * (n : Int) - 1) : floatOfInt .f64 k = kL n := by subst h; rfl
theorem fl_two : fl .f64 4611686018427387904 = some 4611686018427387904 := by decide
theorem fl_ln2 : fl .f64 4604418534313441775 = some 4604418534313441775 := by decide
theorem half_testF {y : Nat} (h : y < 9218868437227405312) : (FloatKind.f64.format.order y 4609434218613702656 == some Ordering.gt || FloatKind.f64.format.order y 4609434218613702656 == some Ordering.eq) = decide (4609434218613702656 ≤ y) := half_test h
theorem low_testF {y : Nat} (h1 : 4604930618986332160 ≤ y) (h : y < 9218868437227405312) : (FloatKind.f64.format.order y 4604930618986332160 == some Ordering.lt) = false := low_test h1 h
theorem pos_nn {y : Nat} (h : y < 9218868437227405312) : fl .f64 y = some y := by
  refine fl_nn ?_
  rw [nanB_eq, decide_eq_false_iff_not]
  show ¬ Ieee.double.infRung < y % Ieee.double.signWeight
  rw [ir64, sw64]
  omega
theorem half_lo {y : Nat} (h : ¬ 4609434218613702656 ≤ y) : halved y = (y, 0) := by unfold halved; rw [if_neg h]
theorem half_hi {y : Nat} (h : 4609434218613702656 ≤ y) : halved y = (y - 4503599627370496, 4607182418800017408) := by unfold halved; rw [if_pos h]


set_option maxRecDepth 100000 in
set_option maxHeartbeats 1000000 in
theorem impl_naturalLog_c (w : World) (y : Nat) (h1 : 4607182418800017408 ≤ y) (h2 : y ≤ 4611686018427387904) :
    Calls Try.prog 92 #[.float .f64 y] w fun e w' => ∃ v, e = .returned (.float .f64 v) ∧ fl .f64 v = logTailO (halved y).1 (halved y).2 ∧ ∃ q, w' = w.drewN q := by
  obtain ⟨g1, g2, g3, g4⟩ := halved_is h1 h2
  obtain ⟨Y, hY⟩ : ∃ Y, (halved y).1 = Y := ⟨_, rfl⟩
  obtain ⟨E, hE⟩ : ∃ E, (halved y).2 = E := ⟨_, rfl⟩
  rw [hY] at g1 g3 g4
  rw [hE] at g2
  rw [hY, hE]
  have hYE : halved y = (Y, E) := by rw [← hY, ← hE]
  have hst : (¬ 4609434218613702656 ≤ y ∧ y = Y ∧ E = 0) ∨ (4609434218613702656 ≤ y ∧ y - 4503599627370496 = Y ∧ E = 4607182418800017408) := by
    by_cases h : 4609434218613702656 ≤ y
    · rw [half_hi h] at hYE
      obtain ⟨e1, e2⟩ := Prod.mk.inj hYE
      exact .inr ⟨h, e1, e2.symm⟩
    · rw [half_lo h] at hYE
      obtain ⟨e1, e2⟩ := Prod.mk.inj hYE
      exact .inl ⟨h, e1, e2.symm⟩
  have hst0 : (y = Y ∧ E = 0) ∨ (4609434218613702656 ≤ y ∧ floatBits .quo .f64 y 4611686018427387904 = some Y ∧ E = 4607182418800017408) := by
    rcases hst with ⟨_, e1, e2⟩ | ⟨e0, e1, e2⟩
    · exact .inl ⟨e1, e2⟩
    · exact .inr ⟨e0, by rw [← e1]; exact half_step e0 (by omega), e2⟩
  have hyf : y < 9218868437227405312 := by omega
  have hlty : ∀ z, 4609434218613702656 ≤ y → Y = z → z < y := by
    intro z h e
    omega
  clear hst hYE hY hE
  obtain ⟨a, b, s, u, ha, hb, hs, _, hu, _⟩ := log_quo (y := Y) g1
  have a1 := fres_one ha
  have a2 := fdr_one ha
  have b1 := fres_one hb
  have b2 := fdr_one hb
  have s1 := fres_one hs
  have s2 := fdr_one hs
  have u1 := fres_one hu
  have u2 := fdr_one hu
  have hsn : fl .f64 s = some s := fl_nn (floatBits_nn hs)
  have hun : fl .f64 u = some u := fl_nn (floatBits_nn hu)
  have htail : logTailO Y E = fop .add .f64 (fop .mul .f64 (some 4611686018427387904) (fop .mul .f64 (some s) (logRowO (some u) 13))) (fop .mul .f64 (some E) (some 4604418534313441775)) := by
    unfold logTailO
    rw [fop_some, ha, fop_some, hb, fop_some, hs, fop_some, hu]
  have HTL := Lib.hid htail
  have HSN := Lib.hid hsn
  have HUN := Lib.hid hun
  clear ha hb hs hu htail hsn hun
  have HLT := Lib.hid hlty
  clear hlty
  have hEn : fl .f64 E = some E := pos_nn (by omega)
  have hYn : fl .f64 Y = some Y := pos_nn (by omega)
  have HEN := Lib.hid hEn
  have HYN := Lib.hid hYn
  have HST := Lib.hid hst0
  have htY := half_testF (y := Y) (by omega)
  rw [decide_eq_false (by omega)] at htY
  have hlY := low_testF g3 (by omega)
  clear hEn hYn hst0 g1 g3 g4
  go_enter Try.func92, Try.ntmps92
  go_wp2
  go_loopw [0, 3] (fun x e wr => ((x = .float .f64 Y ∧ e = .float .f64 E) ∨ (x = .float .f64 y ∧ e = .float .f64 0 ∧ 4609434218613702656 ≤ y ∧ floatBits .quo .f64 y 4611686018427387904 = some Y ∧ E = 4607182418800017408)) ∧ ∃ q, wr = w.drewN q) (fun x _ _ => floOf x)
  case atStart =>
    refine ⟨?_, 0, rfl⟩
    rcases HST.out with ⟨e1, e2⟩ | ⟨e0, e1, e2⟩
    · rw [e1, e2]; exact .inl ⟨rfl, rfl⟩
    · exact .inr ⟨rfl, rfl, e0, e1, e2⟩
  case round =>
    obtain ⟨hr, q0, rfl⟩ := hrel
    rcases hr with ⟨rfl, rfl⟩ | ⟨rfl, rfl, e0, e1, e2⟩
    · clear h1 h2 g2 HST hyf HLT
      go_wp2
      go_loopw [0, 3] (fun x e wr => x = .float .f64 Y ∧ e = .float .f64 E ∧ ∃ q, wr = w.drewN q) (fun x _ _ => 0)
      case atStart => exact ⟨rfl, rfl, q0, rfl⟩
      case round =>
        clear q0
        obtain ⟨rfl, rfl, q0, rfl⟩ := hrel
        go_wp2
        go_loopw [6, 7] (fun p k wr => ∃ n q b : Nat, n ≤ 13 ∧ k = .float .f64 (kL n) ∧ p = .float .f64 b ∧ fl .f64 b = logRowO (some u) (13 - n) ∧ wr = w.drewN q) (fun _ k _ => posOf k)
        case atStart => exact ⟨13, _, 0, Nat.le_refl _, by rw [kL_13], rfl, by rw [fl0d]; exact (logRowO_zero _).symm, rfl⟩
        case round =>
          clear q0 htY hlY
          obtain ⟨n, q, b, hn, rfl, rfl, hb, rfl⟩ := hrel
          have HB := Lib.hid hb
          clear hb
          have htest := kL_test hn
          cases n with
          | zero =>
            rw [decide_eq_false (by omega)] at htest
            go_wp2
            go_ret
            refine ⟨_, rfl, ?_, _, rfl⟩
            rw [HTL.out, fl_fres, fl_fres, fl_fres, fl_fres, HB.out, HSN.out, HEN.out, fl_two, fl_ln2]
          | succ n =>
            rw [decide_eq_true (by omega)] at htest
            have hd := kL_down (n := n) (by omega)
            have hd1 := fres_one hd
            have hd2 := fdr_one hd
            clear hd
            go_wp2
            go_roundw
            case rel => exact ⟨n, _, _, by omega, rfl, rfl, by rw [fl_fres, fl_fres, fl_fres, HB.out, HUN.out, fl_one, kL_nn hn]; exact (logRowO_succ _ (show n < 13 by omega)).symm, rfl⟩
            case measure => exact posOf_lt (by omega)
    · have ht := half_testF hyf
      rw [decide_eq_true e0] at ht
      have hd1 := fres_one e1
      have hd2 := fdr_one e1
      have e3 : floatBits .add .f64 0 4607182418800017408 = some E := by rw [e2]; decide +kernel
      have hd3 := fres_one e3
      have hd4 := fdr_one e3
      have HE0 := Lib.hid e0
      clear e1 e3 e0 e2 h1 h2 g2 HST hyf htY hlY
      go_wp2
      go_roundw
      case rel => exact ⟨.inl ⟨rfl, rfl⟩, _, rfl⟩
      case measure => rw [floOf_float, floOf_float]; exact HLT.out _ HE0.out rfl

/-- what the logarithm gives for a NaN or a number from one to two -/
def Sum12 (z : Nat) : Prop := nanB .f32 z = true ∨ (1065353216 ≤ z ∧ z ≤ 1073741824)
def logO (z : Option Nat) : Option Nat := z.bind logNum
theorem sum12_abs {z : Nat} (h1 : 1065353216 ≤ z) (h2 : z ≤ 1073741824) : absF z = z ∧ sgnF z = false := by
  unfold absF sgnF
  refine ⟨by omega, ?_⟩
  rw [show z / 2147483648 = 0 by omega]
  rfl
theorem ord_zero {z : Nat} (h1 : 1065353216 ≤ z) (h2 : z ≤ 1073741824) : FloatKind.f32.format.order z 0 = some .gt := by
  obtain ⟨a1, a2⟩ := sum12_abs h1 h2
  show single.order z 0 = _
  rw [order_valF (by omega) (by decide)]
  have e : valF z = (VF z : Int) := by unfold valF; rw [a1, a2]; rfl
  have hv := VF_lt (a := 0) (b := z) (by omega) (by omega)
  have e0 : valF 0 = 0 := by decide
  have h0 : VF 0 = 0 := by decide
  rw [e, e0, cmp_cases, if_neg (by omega), if_neg (by omega)]
theorem fin_B {z : Nat} (h1 : 1065353216 ≤ z) (h2 : z ≤ 1073741824) : finB (fl .f32 z) = true := low_fin (a := 2) (by decide) (by unfold Low; omega)
theorem log_parts {z : Nat} (h1 : 1065353216 ≤ z) (h2 : z ≤ 1073741824) : ∃ y d r, floatToFloatBits .f32 z .f64 = some y ∧ 4607182418800017408 ≤ y ∧ y ≤ 4611686018427387904 ∧ logTailO (halved y).1 (halved y).2 = some d ∧ floatToFloatBits .f64 d .f32 = some r ∧ logNum z = some r := by
  obtain ⟨y, hy, y1, y2⟩ := widen_12 h1 h2
  obtain ⟨g1, g2, _, _⟩ := halved_is y1 y2
  obtain ⟨d, r, hd, hr, _⟩ := logTail_some g1 g2
  refine ⟨y, d, r, hy, y1, y2, logTailO_eq hd, hr, ?_⟩
  unfold logNum
  rw [hy]; simp only [Option.bind_some]
  rw [hd]; exact hr
theorem ord_max {y : Nat} (h2 : y ≤ 4611686018427387904) : (FloatKind.f64.format.order y 9218868437227405311 == some Ordering.gt) = false := by
  show (double.order y 9218868437227405311 == some Ordering.gt) = false
  rw [order_wordsD (by omega) (by decide), cmp_gtB]
  exact decide_eq_false (by omega)
theorem ord_zeroD {y : Nat} (h1 : 4607182418800017408 ≤ y) (h2 : y ≤ 4611686018427387904) : FloatKind.f64.format.order y 0 = some .gt := by
  show double.order y 0 = _
  rw [order_wordsD (by omega) (by decide), cmp_cases, if_neg (by omega), if_neg (by omega)]


set_option maxRecDepth 100000 in
theorem run_f64frombits (b : Nat) (w : World) : (callFunc 97 #[.int .u64 (b : Int)]).run Try.prog w = .ok (.value (.float .f64 b)) w :=
  (run_callFunc_extern (e := Extern.MathFloatBits.float64frombits) Try.func97 (by kernel_rfl) (by kernel_rfl) (by kernel_rfl) (by kernel_rfl) _ w).trans rfl
set_option maxRecDepth 100000 in
theorem NaN_c (w : World) : Calls Try.prog 91 #[] w fun e w' => e = .returned (.float .f64 9221120237041090561) ∧ w = w' := by
  have hf : ∀ W : World, (callFunc 97 #[.int .u64 9221120237041090561]).run Try.prog W = .ok (.value (.float .f64 9221120237041090561)) W := fun W => run_f64frombits 9221120237041090561 W
  go_enter Try.func91, Try.ntmps91
  go_wp2
  go_ret
  exact ⟨rfl, rfl⟩
theorem nan_D : fl .f64 9221120237041090561 = none := by decide


set_option maxRecDepth 100000 in
theorem IsInf_c (w : World) (y : Nat) (h2 : y ≤ 4611686018427387904) : Calls Try.prog 96 #[.float .f64 y, .int .i64 1] w fun e w' => e = .returned (.bool false) ∧ w = w' := by
  have h := ord_max h2
  go_enter Try.func96, Try.ntmps96
  go_wp2
  go_ret
  exact ⟨rfl, rfl⟩


set_option maxRecDepth 100000 in
set_option maxHeartbeats 1000000 in
theorem impl_LogNumber_c (w : World) (z : Nat) (hz : Sum12 z) : Calls Try.prog 78 #[.float .f32 z] w fun e w' => ∃ v, e = .returned (.float .f32 v) ∧ fl .f32 v = logO (fl .f32 z) ∧ ∃ q, w' = w.drewN q := by
  rcases hz with hn | ⟨h1, h2⟩
  · have o1 := order_nan .f32 z 0 hn
    have o2 := order_nan .f32 z z hn
    have hv : ∀ t d, fl .f32 (fcv .f64 9221120237041090561 .f32 t d) = none := fun t d => by
      rw [fl_narrow (fun y hy => by rw [nan_D] at hy; cases hy), nan_D]
      rfl
    rw [fl_nan hn]
    have HV := Lib.hid hv
    clear hv
    go_enter Try.func78, Try.ntmps78
    go_wp2_with (go_at_call 91; refine (NaN_c _).mono ?_; rintro e w' ⟨rfl, rfl⟩)
    go_ret
    exact ⟨_, rfl, HV.out _ _, _, rfl⟩
  · have o1 := ord_zero h1 h2
    have hfl : fl .f32 z = some z := fl_nn (fin_nn (by rw [(sum12_abs h1 h2).1]; omega))
    have o2 := order_self .f32 z (fl_inv hfl).2
    have hfin := fin_B h1 h2
    obtain ⟨y, d, r, hy, y1, y2, hd, hr, hl⟩ := log_parts h1 h2
    have e1 := fcv_val hy
    have e2 := fcvd_val hy
    have HC := Lib.hid fun W => impl_naturalLog_c W y y1 y2
    have hval : ∀ b t k, fl .f64 b = logTailO (halved y).1 (halved y).2 → fl .f32 (fcv .f64 b .f32 t k) = logO (fl .f32 z) := fun b t k hb => by
      rw [hd] at hb
      rw [fl_narrow (fun u hu => by rw [hb] at hu; cases hu; exact ⟨r, hr⟩), hb, hfl]
      exact hr.trans hl.symm
    have HV := Lib.hid hval
    clear hval hy hd hr hl hfl
    go_enter Try.func78, Try.ntmps78
    go_wp2_with (first
      | (go_at_call 60; refine (impl_IsFinite_c _ z).mono ?_; rintro e w' ⟨rfl, q, rfl⟩; rw [hfin])
      | (go_at_call 92; refine (HC.out _).mono ?_; rintro e w' ⟨b, rfl, hb, q2, rfl⟩))
    go_ret
    exact ⟨_, rfl, HV.out _ _ _ hb, _, rfl⟩


set_option maxRecDepth 100000 in
set_option maxHeartbeats 1000000 in
theorem spec_l01LogWide_nan_c (w : World) (y : Nat) (hn : nanB .f64 y = true) : Calls Try.prog 87 #[.float .f64 y] w fun e w' => ∃ v, e = .returned (.float .f64 v) ∧ fl .f64 v = none ∧ w = w' := by
  have o2 := order_nan .f64 y y hn
  go_enter Try.func87, Try.ntmps87
  go_wp2_with (go_at_call 91; refine (NaN_c _).mono ?_; rintro e w' ⟨rfl, rfl⟩)
  go_ret
  exact ⟨_, rfl, nan_D, rfl⟩


set_option maxRecDepth 100000 in
set_option maxHeartbeats 2000000 in
theorem spec_l01LogWide_c (w : World) (y : Nat) (h1 : 4607182418800017408 ≤ y) (h2 : y ≤ 4611686018427387904) :
    Calls Try.prog 87 #[.float .f64 y] w fun e w' => ∃ v, e = .returned (.float .f64 v) ∧ fl .f64 v = logTailO (halved y).1 (halved y).2 ∧ ∃ q, w' = w.drewN q := by
  obtain ⟨g1, g2, g3, g4⟩ := halved_is h1 h2
  have o1 := ord_zeroD h1 h2
  have o2 := order_self .f64 y (fl_inv (pos_nn (y := y) (by omega))).2
  have HI := Lib.hid fun W => IsInf_c W y h2
  obtain ⟨Y, hY⟩ : ∃ Y, (halved y).1 = Y := ⟨_, rfl⟩
  obtain ⟨E, hE⟩ : ∃ E, (halved y).2 = E := ⟨_, rfl⟩
  rw [hY] at g1 g3 g4
  rw [hE] at g2
  rw [hY, hE]
  have hYE : halved y = (Y, E) := by rw [← hY, ← hE]
  have hst : (¬ 4609434218613702656 ≤ y ∧ y = Y ∧ E = 0) ∨ (4609434218613702656 ≤ y ∧ y - 4503599627370496 = Y ∧ E = 4607182418800017408) := by
    by_cases h : 4609434218613702656 ≤ y
    · rw [half_hi h] at hYE
      obtain ⟨e1, e2⟩ := Prod.mk.inj hYE
      exact .inr ⟨h, e1, e2.symm⟩
    · rw [half_lo h] at hYE
      obtain ⟨e1, e2⟩ := Prod.mk.inj hYE
      exact .inl ⟨h, e1, e2.symm⟩
  have hst0 : ∃ j : Nat, j ≤ 1 ∧ floatOfInt .f64 (j : Int) = E ∧ ((y = Y ∧ j = 0) ∨ (4609434218613702656 ≤ y ∧ floatBits .quo .f64 y 4611686018427387904 = some Y ∧ j = 1)) := by
    rcases hst with ⟨_, e1, e2⟩ | ⟨e0, e1, e2⟩
    · exact ⟨0, by omega, by rw [e2]; exact one_is.2, .inl ⟨e1, rfl⟩⟩
    · exact ⟨1, by omega, by rw [e2]; exact one_is.1, .inr ⟨e0, by rw [← e1]; exact half_step e0 (by omega), rfl⟩⟩
  obtain ⟨J, hJ, hJE, hst1⟩ := hst0
  have hyf : y < 9218868437227405312 := by omega
  have hlty : ∀ z, 4609434218613702656 ≤ y → Y = z → z < y := by
    intro z h e
    omega
  clear hst hYE hY hE
  obtain ⟨a, b, s, u, ha, hb, hs, _, hu, _⟩ := log_quo (y := Y) g1
  have a1 := fres_one ha
  have a2 := fdr_one ha
  have b1 := fres_one hb
  have b2 := fdr_one hb
  have s1 := fres_one hs
  have s2 := fdr_one hs
  have u1 := fres_one hu
  have u2 := fdr_one hu
  have hsn : fl .f64 s = some s := fl_nn (floatBits_nn hs)
  have hun : fl .f64 u = some u := fl_nn (floatBits_nn hu)
  have htail : logTailO Y E = fop .add .f64 (fop .mul .f64 (some 4611686018427387904) (fop .mul .f64 (some s) (logRowO (some u) 13))) (fop .mul .f64 (some E) (some 4604418534313441775)) := by
    unfold logTailO
    rw [fop_some, ha, fop_some, hb, fop_some, hs, fop_some, hu]
  have HTL := Lib.hid htail
  have HSN := Lib.hid hsn
  have HUN := Lib.hid hun
  clear ha hb hs hu htail hsn hun
  have HLT := Lib.hid hlty
  clear hlty
  have hEn : fl .f64 E = some E := pos_nn (by omega)
  have hYn : fl .f64 Y = some Y := pos_nn (by omega)
  have HEN := Lib.hid hEn
  have HYN := Lib.hid hYn
  have HST := Lib.hid hst1
  have HJE := Lib.hid hJE
  have htY := half_testF (y := Y) (by omega)
  rw [decide_eq_false (by omega)] at htY
  have hlY := low_testF g3 (by omega)
  clear hEn hYn hst1 hJE g1 g2 g3 g4 h1 h2
  go_enter Try.func87, Try.ntmps87
  go_wp2_with (go_at_call 96; refine (HI.out _).mono ?_; rintro e w' ⟨rfl, rfl⟩)
  go_loopw [0, 3] (fun x e wr => ((x = .float .f64 Y ∧ e = .int .i64 (J : Int)) ∨ (x = .float .f64 y ∧ e = .int .i64 0 ∧ 4609434218613702656 ≤ y ∧ floatBits .quo .f64 y 4611686018427387904 = some Y ∧ J = 1)) ∧ ∃ q, wr = w.drewN q) (fun x _ _ => floOf x)
  case atStart =>
    refine ⟨?_, 0, rfl⟩
    rcases HST.out with ⟨e1, e2⟩ | ⟨e0, e1, e2⟩
    · rw [e1, e2]; exact .inl ⟨rfl, rfl⟩
    · exact .inr ⟨rfl, rfl, e0, e1, e2⟩
  case round =>
    obtain ⟨hr, q0, rfl⟩ := hrel
    rcases hr with ⟨rfl, rfl⟩ | ⟨rfl, rfl, e0, e1, e2⟩
    · clear HST hyf HLT
      go_wp2
      go_loopw [0, 3] (fun x e wr => x = .float .f64 Y ∧ e = .int .i64 (J : Int) ∧ ∃ q, wr = w.drewN q) (fun x _ _ => 0)
      case atStart => exact ⟨rfl, rfl, q0, rfl⟩
      case round =>
        clear q0
        obtain ⟨rfl, rfl, q0, rfl⟩ := hrel
        go_wp2
        go_loopw [6, 7] (fun p k wr => ∃ (n q b : Nat) (m : Int), n ≤ 13 ∧ m = 2 * (n : Int) - 1 ∧ k = .int .i64 m ∧ p = .float .f64 b ∧ fl .f64 b = logRowO (some u) (13 - n) ∧ wr = w.drewN q) (fun _ k _ => (intOf k + 1).toNat)
        case atStart => exact ⟨13, _, 0, 25, Nat.le_refl _, by decide, rfl, rfl, by rw [fl0d]; exact (logRowO_zero _).symm, rfl⟩
        case round =>
          clear q0 htY hlY
          obtain ⟨n, q, b, m, hn, hm, rfl, rfl, hb, rfl⟩ := hrel
          have HB := Lib.hid hb
          clear hb
          by_cases h1 : 1 ≤ m
          · have hn0 : 1 ≤ n := by omega
            have hk := kL_eq hm
            have HK := Lib.hid hk
            clear hk
            go_wp2_with (rw [HK.out])
            go_roundw
            case rel =>
              refine ⟨n - 1, _, _, m - 2, by omega, by omega, by go_num, rfl, ?_, rfl⟩
              obtain ⟨i, rfl⟩ : ∃ i, n = i + 1 := ⟨n - 1, by omega⟩
              rw [Nat.add_sub_cancel, fl_fres, fl_fres, fl_fres, HB.out, HUN.out, fl_one, show floatOfInt .f64 (2 * ((i + 1 : Nat) : Int) - 1) = kL (i + 1) from rfl, kL_nn hn]
              exact (logRowO_succ _ (show i < 13 by omega)).symm
            case measure => simp [intOf]; omega
          · obtain rfl : n = 0 := by omega
            go_wp2_with (rw [HJE.out])
            go_ret
            refine ⟨_, rfl, ?_, _, rfl⟩
            rw [HTL.out, fl_fres, fl_fres, fl_fres, fl_fres, HB.out, HSN.out, HEN.out, fl_two, fl_ln2]
    · have ht := half_testF hyf
      rw [decide_eq_true e0] at ht
      have hd1 := fres_one e1
      have hd2 := fdr_one e1
      have HE0 := Lib.hid e0
      subst e2
      clear e1 e0 HST hyf htY hlY o1 o2
      go_wp2
      go_roundw
      case rel => exact ⟨.inl ⟨rfl, rfl⟩, _, rfl⟩
      case measure => rw [floOf_float, floOf_float]; exact HLT.out _ HE0.out rfl


set_option maxRecDepth 100000 in
theorem spec_l01Log_c (w : World) (z : Nat) (hz : Sum12 z) : Calls Try.prog 73 #[.float .f32 z] w fun e w' => ∃ v, e = .returned (.float .f32 v) ∧ fl .f32 v = logO (fl .f32 z) ∧ ∃ q, w' = w.drewN q := by
  rcases hz with hn | ⟨h1, h2⟩
  · obtain ⟨y, hy⟩ : ∃ y, fcv .f32 z .f64 w.tape w.drawn = y := ⟨_, rfl⟩
    have hyn : nanB .f64 y = true := by
      have h := fl_widen z w.tape w.drawn
      rw [hy, fl_nan hn] at h
      cases hh : nanB .f64 y with
      | true => rfl
      | false => rw [fl_nn hh] at h; cases h
    rw [fl_nan hn]
    have HC := Lib.hid fun W => spec_l01LogWide_nan_c W y hyn
    clear hyn
    go_enter Try.func73, Try.ntmps73
    go_wp2_with (first
      | rw [hy]
      | (go_at_call 87; refine (HC.out _).mono ?_; rintro e w' ⟨b, rfl, hb, rfl⟩; have HB := Lib.hid hb; clear hb)
      | (go_at_call 86; refine (spec_l01NarrowO_c _ _ (fun u hu => by rw [HB.out] at hu; cases hu)).mono ?_; rintro e w' ⟨v, rfl, hv, q2, rfl⟩))
    go_ret
    exact ⟨_, rfl, by rw [hv, HB.out]; rfl, _, rfl⟩
  · have hfl : fl .f32 z = some z := fl_nn (fin_nn (by rw [(sum12_abs h1 h2).1]; omega))
    obtain ⟨y, d, r, hy, y1, y2, hd, hr, hl⟩ := log_parts h1 h2
    have e1 := fcv_val hy
    have e2 := fcvd_val hy
    have HC := Lib.hid fun W => spec_l01LogWide_c W y y1 y2
    have hval : ∀ b, fl .f64 b = logTailO (halved y).1 (halved y).2 → (∀ u, fl .f64 b = some u → ∃ r, floatToFloatBits .f64 u .f32 = some r) ∧ ((fl .f64 b).bind fun y => floatToFloatBits .f64 y .f32) = logO (fl .f32 z) := fun b hb => by
      rw [hd] at hb
      rw [hb, hfl]
      exact ⟨fun u hu => by cases hu; exact ⟨r, hr⟩, hr.trans hl.symm⟩
    have HV := Lib.hid hval
    clear hval hy hd hr hl hfl
    go_enter Try.func73, Try.ntmps73
    go_wp2_with (first
      | (go_at_call 87; refine (HC.out _).mono ?_; rintro e w' ⟨b, rfl, hb, q, rfl⟩; have HB := Lib.hid hb; clear hb)
      | (go_at_call 86; refine (spec_l01NarrowO_c _ _ (HV.out _ HB.out).1).mono ?_; rintro e w' ⟨v, rfl, hv, q2, rfl⟩))
    go_ret
    exact ⟨_, rfl, hv.trans (HV.out _ HB.out).2, _, rfl⟩

end Go.Proofs.Ytopeidmafalklaa


namespace Go.Proofs.Ytopeidmafalklaa
open Go.RowKit

/-- a block of cells -/
def Obj (W : World) (B : Nat) (t : TypeId) (cs : Array Value) : Prop := W.heap[B]? = some (.cells cs t (0, 0))
theorem Obj.lt {W : World} {B : Nat} {t : TypeId} {cs : Array Value} (h : Obj W B t cs) : B < W.heap.size := (Array.getElem?_eq_some_iff.1 h).1
theorem Obj.cell {W : World} {B : Nat} {t : TypeId} {cs : Array Value} (h : Obj W B t cs) (o : Nat) : W.cell? ⟨B, o, none⟩ = cs[o]? := cell_of_row W B o cs t (0, 0) h
theorem Obj.frozen {W : World} {B : Nat} {t : TypeId} {cs : Array Value} (h : Obj W B t cs) (o : Nat) : W.frozen? ⟨B, o, none⟩ = false := by simp [World.frozen?, show W.heap[B]? = _ from h]
theorem Obj.new (W : World) (t : TypeId) (cs : Array Value) : Obj (W.alloc (.cells cs t)) W.heap.size t cs := heap_alloc_new W _
theorem Obj.kept {W W' : World} {row : Option Nat} {B : Nat} {t : TypeId} {cs : Array Value} (h : Obj W B t cs) (hg : W.grownBy W' row) (hne : some B ≠ row) : Obj W' B t cs := (hg.block B h.lt hne).trans h
theorem Obj.alloc {W : World} {B : Nat} {t : TypeId} {cs : Array Value} (h : Obj W B t cs) (o : Go.Obj) : Obj (W.alloc o) B t cs := h.kept (World.grownBy_alloc W o none) (by simp)
theorem Obj.below {W W' : World} {B D : Nat} {t : TypeId} {cs : Array Value} (h : Obj W B t cs) (hb : Below D W W') (hD : B < D) : Obj W' B t cs := (hb.block B hD).trans h
theorem Obj.set {W : World} {B : Nat} {t : TypeId} {cs : Array Value} (h : Obj W B t cs) (o : Nat) (v : Value) : Obj (W.setCell ⟨B, o, none⟩ v) B t (cs.setIfInBounds o v) := by
  obtain ⟨hlt, hk⟩ := Array.getElem?_eq_some_iff.1 h
  show (W.heap.modify B _)[B]? = _
  rw [Array.getElem?_eq_getElem (by rw [Array.size_modify]; exact hlt), Array.getElem_modify_self, hk]
  rfl
theorem grownBy_set (W : World) (b o : Nat) (v : Value) : W.grownBy (W.setCell ⟨b, o, none⟩ v) (some b) :=
  ⟨rfl, rfl, rfl, (KeepsWalks.setCell W _ v).size, fun k _ hk => Below.heap_setCell _ _ _ k (fun e => hk (by rw [e]))⟩
theorem Obj.two {W : World} {B : Nat} {t : TypeId} {a b : Value} (h : Obj W B t #[a, b]) : (W.cell? ⟨B, 0, none⟩ = some a ∧ W.cell? ⟨B, 1, none⟩ = some b) ∧ (W.frozen? ⟨B, 0, none⟩ = false ∧ W.frozen? ⟨B, 1, none⟩ = false) :=
  ⟨⟨h.cell 0, h.cell 1⟩, h.frozen 0, h.frozen 1⟩
theorem below_put {D : Nat} {w W : World} (h : Below D w W) {b : Nat} (hb : D ≤ b) (o : Nat) (v : Value) : Below D w (W.setCell ⟨b, o, none⟩ v) := Below.setCell h (by simpa using hb) _
theorem Obj.apart {w w' : World} {B : Nat} {t : TypeId} {cs : Array Value} {u : Value} (h : Obj w B t cs) (hg : w.grownBy w' u.ownBlock) {c d : Nat} (hu : In u c d) (hs : B < c ∨ d ≤ B) : Obj w' B t cs :=
  h.kept hg (fun he => by have := hu B he.symm; omega)
theorem Obj.drew {W : World} {B : Nat} {t : TypeId} {cs : Array Value} (h : Obj W B t cs) : Obj W.drew B t cs := h
theorem Obj.far {W : World} {B b : Nat} {t : TypeId} {cs : Array Value} (h : Obj W B t cs) (hne : B ≠ b) (o : Nat) (v : Value) : Obj (W.setCell ⟨b, o, none⟩ v) B t cs := h.kept (grownBy_set W b o v) (by simpa using hne)
/-- a row of another type lies elsewhere -/
theorem Obj.not_row {W : World} {B : Nat} {t e : TypeId} {cs : Array Value} (h : Obj W B t cs) (hte : t ≠ e) {base size k : Nat} {v : Value} {xs : List Value} (hr : W.ownsRow base e size v k xs) : some B ≠ v.ownBlock := by
  rcases hr.2 with ⟨rfl, _⟩ | ⟨g, cap, cur, rfl, _, hgb, _⟩
  · simp [Value.ownBlock]
  · intro e'
    obtain rfl : B = g := by simpa [Value.ownBlock] using e'
    have := (show W.heap[B]? = _ from h).symm.trans hgb
    simp at this
    exact hte this.2

end Go.Proofs.Ytopeidmafalklaa


namespace Go.Proofs.Ytopeidmafalklaa
open Ieee Go.RowKit

theorem read_infS {x : Nat} (h : absF x = 2139095040) : single.read x = .infinity (sgnF x) := by
  unfold absF at h
  unfold Format.read
  simp only [sw32, bi32, ir32]
  rw [if_neg (by omega), if_neg (by omega), if_pos h]
  rfl
theorem nn_abs {x : Nat} (h : nanB .f32 x = false) : absF x < 2139095040 ∨ absF x = 2139095040 := by
  rw [nanB_eq, decide_eq_false_iff_not] at h
  have h2 : ¬ Ieee.single.infRung < x % Ieee.single.signWeight := h
  rw [ir32, sw32] at h2
  unfold absF
  omega
theorem minf_is : single.write (.infinity true) = 4286578688 := by decide
theorem bits_ltF {op : BinOp} {x y r : Nat} (h : floatBits op .f32 x y = some r) : r < 4294967296 := wf32.1 (floatBits_wf h)
theorem fin_gap {d : Nat} (hlt : d < 4294967296) (hn : nanB .f32 d = false) (h : d = 0 ∨ sgnF d = true) : Gap d := by
  rcases nn_abs hn with q | q
  · exact .inr (.inl ⟨q, h⟩)
  · refine .inr (.inr ?_)
    rcases h with rfl | h
    · exact absurd q (by decide)
    · unfold absF at q
      unfold sgnF at h
      have h2 : d / 2147483648 % 2 = 1 := by simpa using h
      omega
theorem gap_le {lo hi d : Nat} (hl : nanB .f32 lo = false) (hh : nanB .f32 hi = false) (h : single.order lo hi ≠ some .gt) (hd : floatBits .sub .f32 lo hi = some d) : Gap d := by
  have hdn : nanB .f32 d = false := floatBits_nn hd
  have hlt := bits_ltF hd
  have hd' : (((single.read lo).sum (single.read hi).opposite).map single.write) = some d := hd
  have ho : (single.read lo).order (single.read hi) ≠ some .gt := h
  rcases nn_abs hl with q1 | q1 <;> rcases nn_abs hh with q2 | q2
  · have hv : valF lo ≤ valF hi := by
      rw [order_valF q1 q2, cmp_cases] at h
      by_cases a : valF lo < valF hi
      · omega
      · rw [if_neg a] at h
        by_cases b : valF lo = valF hi
        · omega
        · rw [if_neg b] at h; exact absurd rfl h
    obtain ⟨d2, e1, e2⟩ := gap_fin q1 q2 hv
    rw [hd] at e1
    cases e1
    exact fin_gap hlt hdn e2
  · rw [readF q1, read_infS q2] at hd' ho
    cases hs : sgnF hi with
    | true => rw [hs] at ho; exact absurd rfl ho
    | false =>
      rw [hs] at hd'
      have e : single.write (.infinity true) = d := by simpa [Datum.opposite, Datum.sum] using hd'
      rw [minf_is] at e
      exact .inr (.inr e.symm)
  · rw [readF q2, read_infS q1] at hd' ho
    cases hs : sgnF lo with
    | false => rw [hs] at ho; exact absurd rfl ho
    | true =>
      rw [hs] at hd'
      have e : single.write (.infinity true) = d := by simpa [Datum.opposite, Datum.sum] using hd'
      rw [minf_is] at e
      exact .inr (.inr e.symm)
  · rw [read_infS q1, read_infS q2] at hd' ho
    cases hs : sgnF lo <;> cases ht : sgnF hi <;> rw [hs, ht] at hd' ho
    · simp [Datum.opposite, Datum.sum] at hd'
    · exact absurd rfl ho
    · have e : single.write (.infinity true) = d := by simpa [Datum.opposite, Datum.sum] using hd'
      rw [minf_is] at e
      exact .inr (.inr e.symm)
    · simp [Datum.opposite, Datum.sum] at hd'
theorem nan_fres {op : BinOp} {k : FloatKind} {x y : Nat} (h : floatBits op k x y = none) (t : Tape) (d : Nat) : nanB k (fres op k x y t d) = true := by
  have e : fres op k x y t d = (Question.nanBits k x y).cut (t d (.nanBits k x y)) := by simp [fres, h]
  rw [e]
  exact nanBits_nan ..
/-- the lesser less the greater is a gap -/
theorem gap_fres {lo hi : Nat} (h : FloatKind.f32.format.order lo hi ≠ some .gt) (t : Tape) (d : Nat) : Gap (fres .sub .f32 lo hi t d) := by
  cases e : floatBits .sub .f32 lo hi with
  | none => exact .inl (nan_fres e t d)
  | some r =>
    rw [fres_one e]
    have hl : nanB .f32 lo = false := by
      cases hn : nanB .f32 lo with
      | false => rfl
      | true => rw [floatBits_nan (.inl hn)] at e; cases e
    have hh : nanB .f32 hi = false := by
      cases hn : nanB .f32 hi with
      | false => rfl
      | true => rw [floatBits_nan (.inr hn)] at e; cases e
    exact gap_le hl hh h e
/-- one more than the exponential of a gap is a NaN or between one and two -/
theorem sum_fres {d e : Nat} (hg : Gap d) (he : fl .f32 e = expO (fl .f32 d)) (t : Tape) (k : Nat) : Sum12 (fres .add .f32 1065353216 e t k) := by
  by_cases hn : nanB .f32 e = true
  · exact .inl (nan_fres (floatBits_nan (.inr hn)) t k)
  · rw [fl_nn (by simpa using hn)] at he
    have hd : ∃ r, expO (fl .f32 d) = some r ∧ r ≤ 1065353216 := by
      by_cases hnd : nanB .f32 d = true
      · rw [fl_nan hnd] at he; cases he
      · rw [fl_nn (by simpa using hnd)]
        refine expNum_some ?_
        rcases hg with q | ⟨_, q⟩ | q
        · exact absurd q hnd
        · exact q
        · subst q; exact .inr (by decide)
    obtain ⟨r, h1, h2⟩ := hd
    rw [h1] at he
    cases he
    obtain ⟨z, hz, z1, z2⟩ := add_one_12 h2
    rw [fres_one hz]
    exact .inr ⟨z1, z2⟩

/-- the join of two numbers: the greater, and what the gap adds -/
def joinV (hi lo : Option Nat) : Option Nat := fop .add .f32 hi (logO (fop .add .f32 (some 1065353216) (expO (fop .sub .f32 lo hi))))
def gtF (x y : Option Nat) : Bool := ford .f32 x y == some Ordering.gt
def joinO (x y : Option Nat) : Option Nat := if gtF y x then joinV y x else joinV x y
theorem joinV_none1 (x : Option Nat) : joinV none x = none := rfl
theorem joinV_none2 (x : Option Nat) : joinV x none = none := by
  unfold joinV
  rw [none_fop]
  show fop .add .f32 x (logO (fop .add .f32 (some 1065353216) none)) = none
  rw [fop_none]
  exact fop_none x
theorem one32 : fl .f32 1065353216 = some 1065353216 := by decide

/-! ### the greatest and the least of two -/
def mxF (x y : Nat) (t : Tape) (d : Nat) : Nat := match FloatKind.f32.format.order x y with
  | none => (Question.nanMinMax .f32 true x y).cut (t d (.nanMinMax .f32 true x y))
  | some .lt => y
  | some .gt => x
  | some .eq => if (FloatKind.f32.decode x).neg then y else x
def mnF (x y : Nat) (t : Tape) (d : Nat) : Nat := match FloatKind.f32.format.order x y with
  | none => (Question.nanMinMax .f32 false x y).cut (t d (.nanMinMax .f32 false x y))
  | some .lt => x
  | some .gt => y
  | some .eq => if (FloatKind.f32.decode x).neg then x else y
def mmd (x y : Nat) : Nat := match FloatKind.f32.format.order x y with | none => 1 | some _ => 0
theorem run_mxF {P : Program} (w : World) (ts : Array TypeId) (t : TypeId) (x y : Nat) : (Builtin.max_ ts t #[.float .f32 x, .float .f32 y]).run P w = .ok (.float .f32 (mxF x y w.tape w.drawn)) (w.drewN (mmd x y)) := by
  have hf : (Question.nanMinMax .f32 true x y).forced = false := rfl
  unfold mxF mmd
  cases h : FloatKind.f32.format.order x y with
  | none => simp [Builtin.max_, Builtin.max2, h, choose, Sem.run, hf]; rfl
  | some o => cases o <;> simp [Builtin.max_, Builtin.max2, h, World.drewN]
theorem run_mnF {P : Program} (w : World) (ts : Array TypeId) (t : TypeId) (x y : Nat) : (Builtin.min_ ts t #[.float .f32 x, .float .f32 y]).run P w = .ok (.float .f32 (mnF x y w.tape w.drawn)) (w.drewN (mmd x y)) := by
  have hf : (Question.nanMinMax .f32 false x y).forced = false := rfl
  unfold mnF mmd
  cases h : FloatKind.f32.format.order x y with
  | none => simp [Builtin.min_, Builtin.min2, h, choose, Sem.run, hf]; rfl
  | some o => cases o <;> simp [Builtin.min_, Builtin.min2, h, World.drewN]
theorem nanMM (b : Bool) (x y t : Nat) : nanB .f32 ((Question.nanMinMax .f32 b x y).cut t) = true := nanBits_nan .f32 x y t
theorem ord_swap {x y : Nat} : FloatKind.f32.format.order y x = (FloatKind.f32.format.order x y).map Ordering.swap := by
  show (single.read y).order (single.read x) = ((single.read x).order (single.read y)).map Ordering.swap
  have key : ∀ d e : Datum, e.order d = (d.order e).map Ordering.swap := by
    intro d e
    cases d <;> cases e <;> try rfl
    · rename_i s m i t n j
      unfold Datum.order
      simp only [Option.map_some, Int.min_comm j i]
      congr 1
      rw [cmp_cases, cmp_cases]
      split <;> split <;> (try split) <;> (try split) <;> (try omega) <;> rfl
    · rename_i s m i t; cases t <;> rfl
    · rename_i s t m i; cases s <;> rfl
    · rename_i s t; cases s <;> cases t <;> rfl
  exact key _ _
theorem zero_joins : joinV (some 0) (some 2147483648) = joinV (some 2147483648) (some 0) ∧ joinV (some 0) (some 0) = joinV (some 2147483648) (some 0) := by decide +kernel

theorem bits_congr {op : BinOp} {x x' y y' : Nat} (hx : single.read x = single.read x') (hy : single.read y = single.read y') : floatBits op .f32 x y = floatBits op .f32 x' y' := by
  have h1 : FloatKind.f32.format.read x = FloatKind.f32.format.read x' := hx
  have h2 : FloatKind.f32.format.read y = FloatKind.f32.format.read y' := hy
  unfold floatBits
  cases op <;> simp only [Format.add, Format.sub, Format.mul, Format.div, h1, h2]
theorem joinV_congr {x x' y y' : Nat} (hx : single.read x = single.read x') (hy : single.read y = single.read y') : joinV (some x) (some y) = joinV (some x') (some y') := by
  unfold joinV
  rw [fop_some, fop_some, bits_congr hy hx]
  cases logO (fop .add .f32 (some 1065353216) (expO (floatBits .sub .f32 y' x'))) with
  | none => rfl
  | some g => rw [fop_some, fop_some]; exact bits_congr hx rfl
theorem read_zero {a : Nat} (h : absF a = 0) : single.read a = single.read (if sgnF a then 2147483648 else 0) := by
  rw [readF (by omega), h]
  cases sgnF a <;> rfl
theorem eq_join {a b : Nat} (h : FloatKind.f32.format.order a b = some .eq) : joinV (some b) (some a) = joinV (some a) (some b) := by
  have hl : nanB .f32 a = false := by
    cases hn : nanB .f32 a with
    | false => rfl
    | true => rw [order_nan _ _ _ hn] at h; cases h
  have hh : nanB .f32 b = false := by
    cases hn : nanB .f32 b with
    | false => rfl
    | true =>
      have h2 := ord_swap (x := a) (y := b)
      rw [order_nan _ _ _ hn, h] at h2
      cases h2
  have same : single.read a = single.read b → joinV (some b) (some a) = joinV (some a) (some b) := fun e => joinV_congr e.symm e
  have ho : (single.read a).order (single.read b) = some .eq := h
  rcases nn_abs hl with q1 | q1 <;> rcases nn_abs hh with q2 | q2
  · have hv : valF a = valF b := by
      have h3 : single.order a b = some .eq := h
      rw [order_valF q1 q2, cmp_cases] at h3
      by_cases c : valF a < valF b
      · rw [if_pos c] at h3; cases h3
      · rw [if_neg c] at h3
        by_cases e : valF a = valF b
        · exact e
        · rw [if_neg e] at h3; cases h3
    by_cases z1 : absF a = 0
    · by_cases z2 : absF b = 0
      · have r1 := read_zero z1
        have r2 := read_zero z2
        rw [joinV_congr r2 r1, joinV_congr r1 r2]
        obtain ⟨j1, j2⟩ := zero_joins
        cases sgnF a <;> cases sgnF b <;> simp only [if_true, if_false, Bool.false_eq_true]
        · exact j1.symm
        · exact j1
      · exfalso
        have := VF_lt (a := 0) (b := absF b) (by omega) q2
        rw [VF_nought] at this
        unfold valF at hv
        rw [z1, VF_nought] at hv
        generalize sgnF a = sa at hv
        generalize sgnF b = sb at hv
        cases sa <;> cases sb <;> simp at hv <;> omega
    · have p1 := VF_lt (a := 0) (b := absF a) (by omega) q1
      rw [VF_nought] at p1
      have hs : sgnF a = sgnF b ∧ VF (absF a) = VF (absF b) := by
        unfold valF at hv
        generalize sgnF a = sa at hv ⊢
        generalize sgnF b = sb at hv ⊢
        cases sa <;> cases sb <;> simp at hv <;> first | exact ⟨rfl, by omega⟩ | (exfalso; omega)
      have ha : absF a = absF b := by
        rcases Nat.lt_trichotomy (absF a) (absF b) with c | c | c
        · have := VF_lt c q2; omega
        · exact c
        · have := VF_lt c q1; omega
      exact same (by rw [readF q1, readF q2, ha, hs.1])
  · rw [readF q1, read_infS q2] at ho
    cases hs : sgnF b <;> rw [hs] at ho <;> cases ho
  · rw [readF q2, read_infS q1] at ho
    cases hs : sgnF a <;> rw [hs] at ho <;> cases ho
  · apply same
    rw [read_infS q1, read_infS q2] at ho ⊢
    cases hs : sgnF a <;> cases ht : sgnF b <;> rw [hs, ht] at ho <;> first | rfl | cases ho
theorem mm_join (a b : Nat) (t : Tape) (d : Nat) (t' : Tape) (d' : Nat) : joinV (fl .f32 (mxF a b t d)) (fl .f32 (mnF a b t' d')) = joinO (fl .f32 a) (fl .f32 b) ∧ FloatKind.f32.format.order (mnF a b t' d') (mxF a b t d) ≠ some .gt := by
  have hg : gtF (fl .f32 b) (fl .f32 a) = (FloatKind.f32.format.order b a == some .gt) := by rw [order_fl]; rfl
  have hsw := ord_swap (x := a) (y := b)
  unfold joinO
  rw [hg, hsw]
  cases h : FloatKind.f32.format.order a b with
  | none =>
    have e1 : nanB .f32 (mxF a b t d) = true := by unfold mxF; rw [h]; exact nanMM ..
    have e2 : nanB .f32 (mnF a b t' d') = true := by unfold mnF; rw [h]; exact nanMM ..
    rw [order_nan _ _ _ e2, fl_nan e1, fl_nan e2]
    refine ⟨?_, by simp⟩
    rw [if_neg (by simp), joinV_none1]
    by_cases hn : nanB .f32 a = true
    · rw [fl_nan hn, joinV_none1]
    · by_cases hm : nanB .f32 b = true
      · rw [fl_nan hm, joinV_none2]
      · exfalso
        have hn' : nanB .f32 a = false := by simpa using hn
        have hm' : nanB .f32 b = false := by simpa using hm
        have ho : (single.read a).order (single.read b) = none := h
        rcases nn_abs hn' with q1 | q1 <;> rcases nn_abs hm' with q2 | q2
        · rw [readF q1, readF q2] at ho; cases ho
        · rw [readF q1, read_infS q2] at ho; cases ho
        · rw [read_infS q1, readF q2] at ho; cases ho
        · rw [read_infS q1, read_infS q2] at ho; cases ho
  | some o =>
    have hl : nanB .f32 a = false := by
      cases hn : nanB .f32 a with
      | false => rfl
      | true => rw [order_nan _ _ _ hn] at h; cases h
    have hh : nanB .f32 b = false := by
      cases hn : nanB .f32 b with
      | false => rfl
      | true => rw [order_nan _ _ _ hn, h] at hsw; cases hsw
    rw [h] at hsw
    rw [fl_nn hl, fl_nn hh]
    cases o with
    | lt =>
      have e1 : mxF a b t d = b := by unfold mxF; rw [h]
      have e2 : mnF a b t' d' = a := by unfold mnF; rw [h]
      rw [e1, e2, fl_nn hl, fl_nn hh, h]
      exact ⟨(if_pos rfl).symm, by simp⟩
    | gt =>
      have e1 : mxF a b t d = a := by unfold mxF; rw [h]
      have e2 : mnF a b t' d' = b := by unfold mnF; rw [h]
      rw [e1, e2, fl_nn hl, fl_nn hh, hsw]
      exact ⟨(if_neg (by decide)).symm, by decide⟩
    | eq =>
      by_cases hneg : (FloatKind.f32.decode a).neg = true
      · have e1 : mxF a b t d = b := by unfold mxF; rw [h]; exact if_pos hneg
        have e2 : mnF a b t' d' = a := by unfold mnF; rw [h]; exact if_pos hneg
        rw [e1, e2, fl_nn hl, fl_nn hh, h]
        exact ⟨(eq_join h).trans (if_neg (by decide)).symm, by simp⟩
      · have e1 : mxF a b t d = a := by unfold mxF; rw [h]; exact if_neg hneg
        have e2 : mnF a b t' d' = b := by unfold mnF; rw [h]; exact if_neg hneg
        rw [e1, e2, fl_nn hl, fl_nn hh, hsw]
        exact ⟨(if_neg (by decide)).symm, by decide⟩

/-- a logarithm of a sum that may not be there -/
def stO (h : Bool) (x : Nat) : Option (Option Nat) := if h then some (fl .f32 x) else none
def joinS : Option (Option Nat) → Option (Option Nat) → Option (Option Nat)
  | some a, some b => some (joinO a b)
  | some a, none => some a
  | none, b => b
def plusS (a : Option (Option Nat)) (x : Option Nat) : Option (Option Nat) := a.map fun y => fop .add .f32 y x

end Go.Proofs.Ytopeidmafalklaa
