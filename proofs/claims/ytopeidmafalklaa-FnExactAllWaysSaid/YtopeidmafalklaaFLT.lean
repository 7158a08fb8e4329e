/-
  Plain: texts merged into one: FD FE FI FJ FK FL FV FW FX FY FZ GK GL GN GO GQ.
  Conditions: as each theorem says.
-/
import Derived.Test.YtopeidmafalklaaLG
import Derived.Test.YtopeidmafalklaaFB
namespace Go.Proofs.Ytopeidmafalklaa
open Ieee Go.RowKit

/-- the significand and the place (above -1074) of a word that is not negative -/
def manD (w : Nat) : Nat := if w < 4503599627370496 then w else 4503599627370496 + w % 4503599627370496
def plcD (w : Nat) : Nat := w / 4503599627370496 - 1
/-- the value of a word, in units of 2 to the power of -1074 -/
def VD (w : Nat) : Nat := manD w * 2 ^ plcD w
theorem word_parts (w : Nat) : w = plcD w * 4503599627370496 + manD w := by
  unfold plcD manD
  split
  · rename_i h
    rw [Nat.div_eq_of_lt h]
    simp
  · rename_i h
    have h1 := Nat.div_add_mod w 4503599627370496
    have h2 : 1 ≤ w / 4503599627370496 := (Nat.le_div_iff_mul_le (by decide)).2 (by omega)
    omega
theorem manD_lt (w : Nat) : manD w < 9007199254740992 := by
  unfold manD
  split
  · omega
  · have := Nat.mod_lt w (show 0 < 4503599627370496 by decide)
    omega
theorem manD_ge {w : Nat} (h : 1 ≤ plcD w) : 4503599627370496 ≤ manD w := by
  unfold plcD at h
  unfold manD
  rw [if_neg (by
    intro hlt
    rw [Nat.div_eq_of_lt hlt] at h
    omega)]
  omega
theorem read_pos {w : Nat} (h : w < 9218868437227405312) : double.read w = .number false (manD w) (-1074 + (plcD w : Int)) := by
  have e1 : w / double.signWeight % 2 = 0 := by rw [sw64]; omega
  have e2 : w % double.signWeight = w := by rw [sw64]; omega
  have el : double.leastPlace = -1074 := by decide
  unfold Format.read manD plcD
  simp only [e1, e2, bi64, ir64, el]
  by_cases h1 : w < 4503599627370496
  · rw [if_pos h1, if_pos h1, Nat.div_eq_of_lt h1]
    rfl
  · rw [if_neg h1, if_neg h1, if_pos h]
    rfl
/-- a cut does not pass a whole number -/
theorem cut_leW (neg : Bool) (n drop m : Nat) (h : n ≤ m * 2 ^ drop) : Toward.even.cut neg n drop ≤ m := by
  unfold Toward.cut
  dsimp only
  rw [Nat.shiftLeft_eq, Nat.one_mul]
  have hm : ∀ b : Bool, b.toNat ≤ 1 := by intro b; cases b <;> decide
  by_cases hd : drop ≤ n.log2 + 2
  · rw [Nat.min_eq_left hd]
    have hp : 0 < 2 ^ drop := Nat.two_pow_pos _
    have h1 : n / 2 ^ drop ≤ m := Nat.div_le_of_le_mul (by rw [Nat.mul_comm]; exact h)
    by_cases h2 : n / 2 ^ drop = m
    · have h3 := Nat.div_add_mod n (2 ^ drop)
      rw [h2] at h3
      have h4 : n % 2 ^ drop = 0 := by
        have : 2 ^ drop * m = m * 2 ^ drop := Nat.mul_comm _ _
        omega
      rw [h4, h2]
      have e1 : (decide (2 ^ drop < 2 * 0) || (2 ^ drop == 2 * 0 && m % 2 == 1)) = false := by
        rw [decide_eq_false (by omega), show (2 ^ drop == 2 * 0) = false by rw [beq_eq_false_iff_ne]; omega]
        rfl
      rw [e1]
      exact Nat.le_refl _
    · have := hm (decide (2 ^ drop < 2 * (n % 2 ^ drop)) || (2 ^ drop == 2 * (n % 2 ^ drop) && n / 2 ^ drop % 2 == 1))
      omega
  · rw [Nat.min_eq_right (by omega)]
    have h1 : n < 2 ^ (n.log2 + 1) := Nat.lt_log2_self
    have h0 : n < 2 ^ (n.log2 + 2) := Nat.lt_of_lt_of_le h1 (Nat.pow_le_pow_right (by omega) (by omega))
    have hpp : 2 ^ (n.log2 + 2) = 2 * 2 ^ (n.log2 + 1) := by rw [show n.log2 + 2 = (n.log2 + 1) + 1 by omega, Nat.pow_succ]; omega
    rw [Nat.div_eq_of_lt h0, Nat.mod_eq_of_lt h0]
    have e1 : (decide (2 ^ (n.log2 + 2) < 2 * n) || (2 ^ (n.log2 + 2) == 2 * n && 0 % 2 == 1)) = false := by
      rw [decide_eq_false (by omega), show (2 ^ (n.log2 + 2) == 2 * n) = false by rw [beq_eq_false_iff_ne]; omega]
      rfl
    rw [e1]
    exact Nat.zero_le _
theorem cut_geW (neg : Bool) (n drop m : Nat) (h : m * 2 ^ drop ≤ n) (hm : m ≠ 0) : m ≤ Toward.even.cut neg n drop := by
  have hp : 0 < 2 ^ drop := Nat.two_pow_pos _
  have hn : 2 ^ drop ≤ n := Nat.le_trans (Nat.le_mul_of_pos_left _ (Nat.pos_of_ne_zero hm)) h
  have hd : drop ≤ n.log2 := (Nat.le_log2 (by omega)).2 hn
  unfold Toward.cut
  dsimp only
  rw [Nat.shiftLeft_eq, Nat.one_mul, Nat.min_eq_left (by omega)]
  have h1 : m ≤ n / 2 ^ drop := (Nat.le_div_iff_mul_le hp).2 h
  omega

/-- rounding does not pass a number of double precision, upwards -/
theorem nearest_le {mag : Nat} {place : Int} {c S E : Nat} (hE : (E : Int) = place + 1074 + (S : Int)) (h : mag * 2 ^ E ≤ VD c * 2 ^ S) : double.nearest false mag place ≤ c := by
  have hw : ∀ r, double.word false r = r := fun r => rfl
  have el : double.leastPlace = -1074 := by decide
  have ef : (double.fractionBits : Int) = 52 := rfl
  unfold Format.nearest
  split
  · rw [hw]; exact Nat.zero_le _
  · rename_i h0
    simp only [hw]
    refine Nat.le_trans (Nat.min_le_left _ _) ?_
    rw [bi64, el, ef]
    obtain ⟨last, hlast⟩ : ∃ last, max (place + (mag.log2 : Int) - 52) (-1074) = last := ⟨_, rfl⟩
    rw [hlast]
    obtain ⟨L, hL⟩ : ∃ L : Nat, last = (L : Int) - 1074 := ⟨(last + 1074).toNat, by omega⟩
    have hLn : (last - -1074).toNat = L := by omega
    rw [hLn]
    have hc := word_parts c
    have hm := manD_lt c
    unfold VD at h
    obtain ⟨P, hP⟩ : ∃ P, plcD c = P := ⟨_, rfl⟩
    obtain ⟨Mc, hMc⟩ : ∃ Mc, manD c = Mc := ⟨_, rfl⟩
    have hge : 1 ≤ P → 4503599627370496 ≤ Mc := fun hp => by rw [← hMc]; exact manD_ge (by rw [hP]; exact hp)
    rw [hP, hMc] at hc h
    rw [hMc] at hm
    have hmag : mag < 2 ^ (mag.log2 + 1) := Nat.lt_log2_self
    rcases Nat.lt_trichotomy L P with hLP | hLP | hLP
    · have hk : Toward.even.cut false (mag <<< (place - last).toNat) (last - place).toNat ≤ 2 ^ 53 := by
        apply cutE_le
        rw [Nat.shiftLeft_eq]
        have h2 : mag * 2 ^ (place - last).toNat < 2 ^ (mag.log2 + 1) * 2 ^ (place - last).toNat := Nat.mul_lt_mul_of_pos_right hmag (Nat.two_pow_pos _)
        rw [← Nat.pow_add] at h2
        exact Nat.lt_of_lt_of_le h2 (Nat.pow_le_pow_right (by omega) (by omega))
      rw [show (2 : Nat) ^ 53 = 9007199254740992 by decide] at hk
      have := hge (by omega)
      have h3 : (L + 1) * 4503599627370496 ≤ P * 4503599627370496 := Nat.mul_le_mul_right _ hLP
      omega
    · subst hLP
      have hk : Toward.even.cut false (mag <<< (place - last).toNat) (last - place).toNat ≤ Mc := by
        apply cut_leW
        rw [Nat.shiftLeft_eq]
        have hpos : 0 < 2 ^ (L + S) := Nat.two_pow_pos _
        by_cases hpl : last ≤ place
        · obtain ⟨d, hd⟩ : ∃ d : Nat, place - last = (d : Int) := ⟨(place - last).toNat, by omega⟩
          rw [show (place - last).toNat = d by omega, show (last - place).toNat = 0 by omega, Nat.pow_zero, Nat.mul_one]
          rw [show E = d + (L + S) by omega, Nat.pow_add, ← Nat.mul_assoc, Nat.mul_assoc Mc, ← Nat.pow_add] at h
          exact Nat.le_of_mul_le_mul_right h hpos
        · obtain ⟨d, hd⟩ : ∃ d : Nat, last - place = (d : Int) := ⟨(last - place).toNat, by omega⟩
          rw [show (place - last).toNat = 0 by omega, show (last - place).toNat = d by omega, Nat.pow_zero, Nat.mul_one]
          have h2 : mag * 2 ^ E * 2 ^ d ≤ Mc * 2 ^ L * 2 ^ S * 2 ^ d := Nat.mul_le_mul_right _ h
          rw [Nat.mul_assoc, ← Nat.pow_add, show E + d = L + S by omega, Nat.mul_assoc Mc, ← Nat.pow_add, Nat.mul_assoc Mc, Nat.mul_comm (2 ^ (L + S)), ← Nat.mul_assoc] at h2
          exact Nat.le_of_mul_le_mul_right h2 hpos
      omega
    · exfalso
      have hl2 : last = place + (mag.log2 : Int) - 52 := by omega
      have h1 : 2 ^ mag.log2 ≤ mag := Nat.log2_self_le h0
      have h2 : 2 ^ mag.log2 * 2 ^ E ≤ Mc * 2 ^ P * 2 ^ S := Nat.le_trans (Nat.mul_le_mul_right _ h1) h
      have hp : 0 < 2 ^ (P + S) := Nat.two_pow_pos _
      have h3 : Mc * 2 ^ (P + S) < 2 ^ 53 * 2 ^ (P + S) := Nat.mul_lt_mul_of_pos_right (by rw [show (2 : Nat) ^ 53 = 9007199254740992 by decide]; exact hm) hp
      rw [← Nat.pow_add, Nat.mul_assoc, ← Nat.pow_add, show mag.log2 + E = L + 52 + S by omega] at h2
      rw [← Nat.pow_add] at h3
      have h4 : 2 ^ (L + 52 + S) < 2 ^ (53 + (P + S)) := Nat.lt_of_le_of_lt h2 h3
      have h5 := (Nat.pow_lt_pow_iff_right (a := 2) (by decide)).1 h4
      omega
/-- rounding does not pass a number of double precision, downwards -/
theorem nearest_ge {mag : Nat} {place : Int} {c S E : Nat} (hcf : c ≤ 9218868437227405312) (hE : (E : Int) = place + 1074 + (S : Int)) (h : VD c * 2 ^ S ≤ mag * 2 ^ E) : c ≤ double.nearest false mag place := by
  have hw : ∀ r, double.word false r = r := fun r => rfl
  have el : double.leastPlace = -1074 := by decide
  have ef : (double.fractionBits : Int) = 52 := rfl
  have hc := word_parts c
  by_cases hM0 : manD c = 0
  · have hP0 : plcD c = 0 := by
      have := manD_ge (w := c)
      omega
    rw [hM0, hP0] at hc
    omega
  have hV : 0 < VD c := Nat.mul_pos (Nat.pos_of_ne_zero hM0) (Nat.two_pow_pos _)
  unfold Format.nearest
  split
  · rename_i h0
    rw [h0] at h
    have := Nat.mul_pos hV (Nat.two_pow_pos S)
    omega
  · rename_i h0
    simp only [hw]
    rw [bi64, el, ef, ir64]
    refine Nat.le_min.2 ⟨?_, hcf⟩
    obtain ⟨last, hlast⟩ : ∃ last, max (place + (mag.log2 : Int) - 52) (-1074) = last := ⟨_, rfl⟩
    rw [hlast]
    obtain ⟨L, hL⟩ : ∃ L : Nat, last = (L : Int) - 1074 := ⟨(last + 1074).toNat, by omega⟩
    have hLn : (last - -1074).toNat = L := by omega
    rw [hLn]
    have hm := manD_lt c
    unfold VD at h
    obtain ⟨P, hP⟩ : ∃ P, plcD c = P := ⟨_, rfl⟩
    obtain ⟨Mc, hMc⟩ : ∃ Mc, manD c = Mc := ⟨_, rfl⟩
    have hge : 1 ≤ P → 4503599627370496 ≤ Mc := fun hp => by rw [← hMc]; exact manD_ge (by rw [hP]; exact hp)
    rw [hP, hMc] at hc h
    rw [hMc] at hm hM0
    have hmag : mag < 2 ^ (mag.log2 + 1) := Nat.lt_log2_self
    rcases Nat.lt_trichotomy L P with hLP | hLP | hLP
    · exfalso
      have h4 := hge (by omega)
      have hp : 0 < 2 ^ (P + S) := Nat.two_pow_pos _
      have h3 : 2 ^ 52 * 2 ^ (P + S) ≤ Mc * 2 ^ (P + S) := Nat.mul_le_mul_right _ (by rw [show (2 : Nat) ^ 52 = 4503599627370496 by decide]; exact h4)
      have h5 : mag * 2 ^ E < 2 ^ (mag.log2 + 1) * 2 ^ E := Nat.mul_lt_mul_of_pos_right hmag (Nat.two_pow_pos _)
      rw [Nat.mul_assoc, ← Nat.pow_add] at h
      rw [← Nat.pow_add] at h3 h5
      have h6 : 2 ^ (52 + (P + S)) < 2 ^ (mag.log2 + 1 + E) := Nat.lt_of_le_of_lt (Nat.le_trans h3 h) h5
      have h7 := (Nat.pow_lt_pow_iff_right (a := 2) (by decide)).1 h6
      omega
    · subst hLP
      have hk : Mc ≤ Toward.even.cut false (mag <<< (place - last).toNat) (last - place).toNat := by
        refine cut_geW _ _ _ _ ?_ hM0
        rw [Nat.shiftLeft_eq]
        have hpos : 0 < 2 ^ (L + S) := Nat.two_pow_pos _
        by_cases hpl : last ≤ place
        · obtain ⟨d, hd⟩ : ∃ d : Nat, place - last = (d : Int) := ⟨(place - last).toNat, by omega⟩
          rw [show (place - last).toNat = d by omega, show (last - place).toNat = 0 by omega, Nat.pow_zero, Nat.mul_one]
          rw [show E = d + (L + S) by omega, Nat.pow_add 2 d, ← Nat.mul_assoc mag, Nat.mul_assoc Mc, ← Nat.pow_add] at h
          exact Nat.le_of_mul_le_mul_right h hpos
        · obtain ⟨d, hd⟩ : ∃ d : Nat, last - place = (d : Int) := ⟨(last - place).toNat, by omega⟩
          rw [show (place - last).toNat = 0 by omega, show (last - place).toNat = d by omega, Nat.pow_zero, Nat.mul_one]
          have h2 : Mc * 2 ^ L * 2 ^ S * 2 ^ d ≤ mag * 2 ^ E * 2 ^ d := Nat.mul_le_mul_right _ h
          rw [Nat.mul_assoc mag, ← Nat.pow_add, show E + d = L + S by omega, Nat.mul_assoc Mc, ← Nat.pow_add, Nat.mul_assoc Mc, Nat.mul_comm (2 ^ (L + S)), ← Nat.mul_assoc] at h2
          exact Nat.le_of_mul_le_mul_right h2 hpos
      omega
    · have hl2 : last = place + (mag.log2 : Int) - 52 := by omega
      have hk : 2 ^ 52 ≤ Toward.even.cut false (mag <<< (place - last).toNat) (last - place).toNat := by
        refine cut_geW _ _ _ _ ?_ (by decide)
        rw [Nat.shiftLeft_eq]
        have h1 : 2 ^ mag.log2 ≤ mag := Nat.log2_self_le h0
        have h2 : 2 ^ mag.log2 * 2 ^ (place - last).toNat ≤ mag * 2 ^ (place - last).toNat := Nat.mul_le_mul_right _ h1
        refine Nat.le_trans ?_ h2
        rw [← Nat.pow_add, ← Nat.pow_add]
        exact Nat.pow_le_pow_right (by decide) (by omega)
      rw [show (2 : Nat) ^ 52 = 4503599627370496 by decide] at hk
      have h3 : (P + 1) * 4503599627370496 ≤ L * 4503599627370496 := Nat.mul_le_mul_right _ hLP
      omega

end Go.Proofs.Ytopeidmafalklaa

namespace Go.Proofs.Ytopeidmafalklaa
open Ieee Go.RowKit

/-- the significand and the place (above -149) of a word that is not negative -/
def manF (w : Nat) : Nat := if w < 8388608 then w else 8388608 + w % 8388608
def plcF (w : Nat) : Nat := w / 8388608 - 1
/-- the value of a word, in units of 2 to the power of -149 -/
def VF (w : Nat) : Nat := manF w * 2 ^ plcF w
theorem word_partsF (w : Nat) : w = plcF w * 8388608 + manF w := by
  unfold plcF manF
  split
  · rename_i h
    rw [Nat.div_eq_of_lt h]
    simp
  · rename_i h
    have h1 := Nat.div_add_mod w 8388608
    have h2 : 1 ≤ w / 8388608 := (Nat.le_div_iff_mul_le (by decide)).2 (by omega)
    omega
theorem manF_lt (w : Nat) : manF w < 16777216 := by
  unfold manF
  split
  · omega
  · have := Nat.mod_lt w (show 0 < 8388608 by decide)
    omega
theorem manF_ge {w : Nat} (h : 1 ≤ plcF w) : 8388608 ≤ manF w := by
  unfold plcF at h
  unfold manF
  rw [if_neg (by
    intro hlt
    rw [Nat.div_eq_of_lt hlt] at h
    omega)]
  omega
theorem read_posF {w : Nat} (h : w < 2139095040) : single.read w = .number false (manF w) (-149 + (plcF w : Int)) := by
  have e1 : w / single.signWeight % 2 = 0 := by rw [sw32]; omega
  have e2 : w % single.signWeight = w := by rw [sw32]; omega
  have el : single.leastPlace = -149 := by decide
  unfold Format.read manF plcF
  simp only [e1, e2, bi32, ir32, el]
  by_cases h1 : w < 8388608
  · rw [if_pos h1, if_pos h1, Nat.div_eq_of_lt h1]
    rfl
  · rw [if_neg h1, if_neg h1, if_pos h]
    rfl
/-- rounding does not pass a number of single precision, upwards -/
theorem nearest_leF {mag : Nat} {place : Int} {c S E : Nat} (hE : (E : Int) = place + 149 + (S : Int)) (h : mag * 2 ^ E ≤ VF c * 2 ^ S) : single.nearest false mag place ≤ c := by
  have hw : ∀ r, single.word false r = r := fun r => rfl
  have el : single.leastPlace = -149 := by decide
  have ef : (single.fractionBits : Int) = 23 := rfl
  unfold Format.nearest
  split
  · rw [hw]; exact Nat.zero_le _
  · rename_i h0
    simp only [hw]
    refine Nat.le_trans (Nat.min_le_left _ _) ?_
    rw [bi32, el, ef]
    obtain ⟨last, hlast⟩ : ∃ last, max (place + (mag.log2 : Int) - 23) (-149) = last := ⟨_, rfl⟩
    rw [hlast]
    obtain ⟨L, hL⟩ : ∃ L : Nat, last = (L : Int) - 149 := ⟨(last + 149).toNat, by omega⟩
    have hLn : (last - -149).toNat = L := by omega
    rw [hLn]
    have hc := word_partsF c
    have hm := manF_lt c
    unfold VF at h
    obtain ⟨P, hP⟩ : ∃ P, plcF c = P := ⟨_, rfl⟩
    obtain ⟨Mc, hMc⟩ : ∃ Mc, manF c = Mc := ⟨_, rfl⟩
    have hge : 1 ≤ P → 8388608 ≤ Mc := fun hp => by rw [← hMc]; exact manF_ge (by rw [hP]; exact hp)
    rw [hP, hMc] at hc h
    rw [hMc] at hm
    have hmag : mag < 2 ^ (mag.log2 + 1) := Nat.lt_log2_self
    rcases Nat.lt_trichotomy L P with hLP | hLP | hLP
    · have hk : Toward.even.cut false (mag <<< (place - last).toNat) (last - place).toNat ≤ 2 ^ 24 := by
        apply cutE_le
        rw [Nat.shiftLeft_eq]
        have h2 : mag * 2 ^ (place - last).toNat < 2 ^ (mag.log2 + 1) * 2 ^ (place - last).toNat := Nat.mul_lt_mul_of_pos_right hmag (Nat.two_pow_pos _)
        rw [← Nat.pow_add] at h2
        exact Nat.lt_of_lt_of_le h2 (Nat.pow_le_pow_right (by omega) (by omega))
      rw [show (2 : Nat) ^ 24 = 16777216 by decide] at hk
      have := hge (by omega)
      have h3 : (L + 1) * 8388608 ≤ P * 8388608 := Nat.mul_le_mul_right _ hLP
      omega
    · subst hLP
      have hk : Toward.even.cut false (mag <<< (place - last).toNat) (last - place).toNat ≤ Mc := by
        apply cut_leW
        rw [Nat.shiftLeft_eq]
        have hpos : 0 < 2 ^ (L + S) := Nat.two_pow_pos _
        by_cases hpl : last ≤ place
        · obtain ⟨d, hd⟩ : ∃ d : Nat, place - last = (d : Int) := ⟨(place - last).toNat, by omega⟩
          rw [show (place - last).toNat = d by omega, show (last - place).toNat = 0 by omega, Nat.pow_zero, Nat.mul_one]
          rw [show E = d + (L + S) by omega, Nat.pow_add, ← Nat.mul_assoc, Nat.mul_assoc Mc, ← Nat.pow_add] at h
          exact Nat.le_of_mul_le_mul_right h hpos
        · obtain ⟨d, hd⟩ : ∃ d : Nat, last - place = (d : Int) := ⟨(last - place).toNat, by omega⟩
          rw [show (place - last).toNat = 0 by omega, show (last - place).toNat = d by omega, Nat.pow_zero, Nat.mul_one]
          have h2 : mag * 2 ^ E * 2 ^ d ≤ Mc * 2 ^ L * 2 ^ S * 2 ^ d := Nat.mul_le_mul_right _ h
          rw [Nat.mul_assoc, ← Nat.pow_add, show E + d = L + S by omega, Nat.mul_assoc Mc, ← Nat.pow_add, Nat.mul_assoc Mc, Nat.mul_comm (2 ^ (L + S)), ← Nat.mul_assoc] at h2
          exact Nat.le_of_mul_le_mul_right h2 hpos
      omega
    · exfalso
      have hl2 : last = place + (mag.log2 : Int) - 23 := by omega
      have h1 : 2 ^ mag.log2 ≤ mag := Nat.log2_self_le h0
      have h2 : 2 ^ mag.log2 * 2 ^ E ≤ Mc * 2 ^ P * 2 ^ S := Nat.le_trans (Nat.mul_le_mul_right _ h1) h
      have hp : 0 < 2 ^ (P + S) := Nat.two_pow_pos _
      have h3 : Mc * 2 ^ (P + S) < 2 ^ 24 * 2 ^ (P + S) := Nat.mul_lt_mul_of_pos_right (by rw [show (2 : Nat) ^ 24 = 16777216 by decide]; exact hm) hp
      rw [← Nat.pow_add, Nat.mul_assoc, ← Nat.pow_add, show mag.log2 + E = L + 23 + S by omega] at h2
      rw [← Nat.pow_add] at h3
      have h4 : 2 ^ (L + 23 + S) < 2 ^ (24 + (P + S)) := Nat.lt_of_le_of_lt h2 h3
      have h5 := (Nat.pow_lt_pow_iff_right (a := 2) (by decide)).1 h4
      omega
/-- rounding does not pass a number of single precision, downwards -/
theorem nearest_geF {mag : Nat} {place : Int} {c S E : Nat} (hcf : c ≤ 2139095040) (hE : (E : Int) = place + 149 + (S : Int)) (h : VF c * 2 ^ S ≤ mag * 2 ^ E) : c ≤ single.nearest false mag place := by
  have hw : ∀ r, single.word false r = r := fun r => rfl
  have el : single.leastPlace = -149 := by decide
  have ef : (single.fractionBits : Int) = 23 := rfl
  have hc := word_partsF c
  by_cases hM0 : manF c = 0
  · have hP0 : plcF c = 0 := by
      have := manF_ge (w := c)
      omega
    rw [hM0, hP0] at hc
    omega
  have hV : 0 < VF c := Nat.mul_pos (Nat.pos_of_ne_zero hM0) (Nat.two_pow_pos _)
  unfold Format.nearest
  split
  · rename_i h0
    rw [h0] at h
    have := Nat.mul_pos hV (Nat.two_pow_pos S)
    omega
  · rename_i h0
    simp only [hw]
    rw [bi32, el, ef, ir32]
    refine Nat.le_min.2 ⟨?_, hcf⟩
    obtain ⟨last, hlast⟩ : ∃ last, max (place + (mag.log2 : Int) - 23) (-149) = last := ⟨_, rfl⟩
    rw [hlast]
    obtain ⟨L, hL⟩ : ∃ L : Nat, last = (L : Int) - 149 := ⟨(last + 149).toNat, by omega⟩
    have hLn : (last - -149).toNat = L := by omega
    rw [hLn]
    have hm := manF_lt c
    unfold VF at h
    obtain ⟨P, hP⟩ : ∃ P, plcF c = P := ⟨_, rfl⟩
    obtain ⟨Mc, hMc⟩ : ∃ Mc, manF c = Mc := ⟨_, rfl⟩
    have hge : 1 ≤ P → 8388608 ≤ Mc := fun hp => by rw [← hMc]; exact manF_ge (by rw [hP]; exact hp)
    rw [hP, hMc] at hc h
    rw [hMc] at hm hM0
    have hmag : mag < 2 ^ (mag.log2 + 1) := Nat.lt_log2_self
    rcases Nat.lt_trichotomy L P with hLP | hLP | hLP
    · exfalso
      have h4 := hge (by omega)
      have hp : 0 < 2 ^ (P + S) := Nat.two_pow_pos _
      have h3 : 2 ^ 23 * 2 ^ (P + S) ≤ Mc * 2 ^ (P + S) := Nat.mul_le_mul_right _ (by rw [show (2 : Nat) ^ 23 = 8388608 by decide]; exact h4)
      have h5 : mag * 2 ^ E < 2 ^ (mag.log2 + 1) * 2 ^ E := Nat.mul_lt_mul_of_pos_right hmag (Nat.two_pow_pos _)
      rw [Nat.mul_assoc, ← Nat.pow_add] at h
      rw [← Nat.pow_add] at h3 h5
      have h6 : 2 ^ (23 + (P + S)) < 2 ^ (mag.log2 + 1 + E) := Nat.lt_of_le_of_lt (Nat.le_trans h3 h) h5
      have h7 := (Nat.pow_lt_pow_iff_right (a := 2) (by decide)).1 h6
      omega
    · subst hLP
      have hk : Mc ≤ Toward.even.cut false (mag <<< (place - last).toNat) (last - place).toNat := by
        refine cut_geW _ _ _ _ ?_ hM0
        rw [Nat.shiftLeft_eq]
        have hpos : 0 < 2 ^ (L + S) := Nat.two_pow_pos _
        by_cases hpl : last ≤ place
        · obtain ⟨d, hd⟩ : ∃ d : Nat, place - last = (d : Int) := ⟨(place - last).toNat, by omega⟩
          rw [show (place - last).toNat = d by omega, show (last - place).toNat = 0 by omega, Nat.pow_zero, Nat.mul_one]
          rw [show E = d + (L + S) by omega, Nat.pow_add 2 d, ← Nat.mul_assoc mag, Nat.mul_assoc Mc, ← Nat.pow_add] at h
          exact Nat.le_of_mul_le_mul_right h hpos
        · obtain ⟨d, hd⟩ : ∃ d : Nat, last - place = (d : Int) := ⟨(last - place).toNat, by omega⟩
          rw [show (place - last).toNat = 0 by omega, show (last - place).toNat = d by omega, Nat.pow_zero, Nat.mul_one]
          have h2 : Mc * 2 ^ L * 2 ^ S * 2 ^ d ≤ mag * 2 ^ E * 2 ^ d := Nat.mul_le_mul_right _ h
          rw [Nat.mul_assoc mag, ← Nat.pow_add, show E + d = L + S by omega, Nat.mul_assoc Mc, ← Nat.pow_add, Nat.mul_assoc Mc, Nat.mul_comm (2 ^ (L + S)), ← Nat.mul_assoc] at h2
          exact Nat.le_of_mul_le_mul_right h2 hpos
      omega
    · have hl2 : last = place + (mag.log2 : Int) - 23 := by omega
      have hk : 2 ^ 23 ≤ Toward.even.cut false (mag <<< (place - last).toNat) (last - place).toNat := by
        refine cut_geW _ _ _ _ ?_ (by decide)
        rw [Nat.shiftLeft_eq]
        have h1 : 2 ^ mag.log2 ≤ mag := Nat.log2_self_le h0
        have h2 : 2 ^ mag.log2 * 2 ^ (place - last).toNat ≤ mag * 2 ^ (place - last).toNat := Nat.mul_le_mul_right _ h1
        refine Nat.le_trans ?_ h2
        rw [← Nat.pow_add, ← Nat.pow_add]
        exact Nat.pow_le_pow_right (by decide) (by omega)
      rw [show (2 : Nat) ^ 23 = 8388608 by decide] at hk
      have h3 : (P + 1) * 8388608 ≤ L * 8388608 := Nat.mul_le_mul_right _ hLP
      omega

end Go.Proofs.Ytopeidmafalklaa

namespace Go.Proofs.Ytopeidmafalklaa
open Ieee Go.RowKit

/-- the word without its sign -/
def absD (x : Nat) : Nat := x % 9223372036854775808
def sgnD (x : Nat) : Bool := x / 9223372036854775808 % 2 == 1
theorem readD {x : Nat} (h : absD x < 9218868437227405312) : double.read x = .number (sgnD x) (manD (absD x)) (-1074 + (plcD (absD x) : Int)) := by
  have el : double.leastPlace = -1074 := by decide
  unfold absD at h
  unfold Format.read manD plcD absD sgnD
  simp only [sw64, bi64, ir64, el]
  by_cases h1 : x % 9223372036854775808 < 4503599627370496
  · rw [if_pos h1, if_pos h1, Nat.div_eq_of_lt h1]
    rfl
  · rw [if_neg h1, if_neg h1, if_pos h]
theorem cut_even (neg : Bool) (n d : Nat) : Toward.even.cut neg n d = Toward.even.cut false n d := by cases neg <;> rfl
theorem nearest_word (neg : Bool) (mag : Nat) (place : Int) : absD (double.nearest neg mag place) = double.nearest false mag place ∧ (double.nearest neg mag place = double.word neg (double.nearest false mag place)) ∧ double.nearest false mag place ≤ 9218868437227405312 := by
  have hw : ∀ r, double.word false r = r := fun r => rfl
  have hle : double.nearest false mag place ≤ 9218868437227405312 := by
    unfold Format.nearest
    split
    · rw [hw]; exact Nat.zero_le _
    · dsimp only
      rw [hw, ir64]
      exact Nat.min_le_right _ _
  have he : double.nearest neg mag place = double.word neg (double.nearest false mag place) := by
    unfold Format.nearest
    split
    · rw [hw]
    · dsimp only
      rw [hw, cut_even]
  refine ⟨?_, he, hle⟩
  rw [he]
  unfold absD
  obtain ⟨r, hr⟩ : ∃ r, double.nearest false mag place = r := ⟨_, rfl⟩
  rw [hr] at hle ⊢
  cases neg
  · rw [hw]; omega
  · have : double.word true r = 9223372036854775808 + r := by unfold Format.word; rw [sw64]; rfl
    rw [this]; omega
theorem sgn_word {neg : Bool} {r : Nat} (h : r ≤ 9218868437227405312) : sgnD (double.word neg r) = neg := by
  unfold sgnD
  cases neg
  · have : double.word false r = r := rfl
    rw [this, Nat.div_eq_of_lt (by omega)]
    rfl
  · have : double.word true r = 9223372036854775808 + r := by unfold Format.word; rw [sw64]; rfl
    rw [this, show (9223372036854775808 + r) / 9223372036854775808 = 1 by omega]
    rfl
/-- a product's bound -/
theorem mul_ab {x y c : Nat} (hx : absD x < 9218868437227405312) (hy : absD y < 9218868437227405312) {U : Nat} (hU : U = 1074) (h : VD (absD x) * VD (absD y) ≤ VD c * 2 ^ U) : ∃ r, floatBits .mul .f64 x y = some r ∧ absD r ≤ c ∧ sgnD r = (sgnD x ^^ sgnD y) := by
  refine ⟨double.nearest (sgnD x ^^ sgnD y) (manD (absD x) * manD (absD y)) ((-1074 + (plcD (absD x) : Int)) + (-1074 + (plcD (absD y) : Int))), ?_, ?_, ?_⟩
  · show (((double.read x).product (double.read y)).map double.write) = _
    rw [readD hx, readD hy]
    rfl
  · obtain ⟨h1, _, _⟩ := nearest_word (sgnD x ^^ sgnD y) (manD (absD x) * manD (absD y)) ((-1074 + (plcD (absD x) : Int)) + (-1074 + (plcD (absD y) : Int)))
    rw [h1]
    refine nearest_le (S := U) (E := plcD (absD x) + plcD (absD y)) (by omega) ?_
    refine Nat.le_trans (Nat.le_of_eq ?_) h
    unfold VD
    rw [Nat.pow_add]
    simp only [Nat.mul_assoc, Nat.mul_left_comm]
  · obtain ⟨_, h2, h3⟩ := nearest_word (sgnD x ^^ sgnD y) (manD (absD x) * manD (absD y)) ((-1074 + (plcD (absD x) : Int)) + (-1074 + (plcD (absD y) : Int)))
    rw [h2]
    exact sgn_word h3

theorem VD_one {U : Nat} (hU : U = 1074) : VD 4607182418800017408 = 2 ^ U := by
  have h1 : manD 4607182418800017408 = 2 ^ 52 := by decide
  obtain ⟨V, hV⟩ : ∃ V, V = 1022 := ⟨_, rfl⟩
  have h2 : plcD 4607182418800017408 = V := by rw [hV]; decide
  unfold VD
  rw [h1, h2, ← Nat.pow_add]
  congr 1
  omega
/-- a quotient of what is no greater is no greater than one -/
theorem quo_one {x y : Nat} (hx : absD x < 9218868437227405312) (hy : absD y < 9218868437227405312) (h0 : manD (absD y) ≠ 0) (h : VD (absD x) ≤ VD (absD y)) : ∃ r, floatBits .quo .f64 x y = some r ∧ absD r ≤ 4607182418800017408 ∧ sgnD r = (sgnD x ^^ sgnD y) := by
  unfold VD at h
  obtain ⟨m, hm⟩ : ∃ m, manD (absD x) = m := ⟨_, rfl⟩
  obtain ⟨n, hn⟩ : ∃ n, manD (absD y) = n := ⟨_, rfl⟩
  obtain ⟨px, hpx⟩ : ∃ p, plcD (absD x) = p := ⟨_, rfl⟩
  obtain ⟨py, hpy⟩ : ∃ p, plcD (absD y) = p := ⟨_, rfl⟩
  have rx := readD hx
  have ry := readD hy
  rw [hm, hpx] at rx
  rw [hn, hpy] at ry
  rw [hm, hn, hpx, hpy] at h
  rw [hn] at h0
  obtain ⟨more, hmore⟩ : ∃ k, 54 + n.log2 - m.log2 = k := ⟨_, rfl⟩
  obtain ⟨mag, hmag⟩ : ∃ k, 2 * ((m <<< more) / n) + ((m <<< more) % n != 0).toNat = k := ⟨_, rfl⟩
  have hq : floatBits .quo .f64 x y = some (double.nearest (sgnD x ^^ sgnD y) mag ((-1074 + (px : Int)) - (-1074 + (py : Int)) - (more : Int) - 1)) := by
    show (((double.read x).quotient 54 (double.read y)).map double.write) = _
    rw [rx, ry]
    unfold Datum.quotient
    simp only [if_neg h0, hmore, hmag]
    rfl
  have hle : mag * 2 ^ px ≤ 2 ^ (py + more + 1) := by
    rw [← hmag, Nat.shiftLeft_eq]
    by_cases hm0 : m = 0
    · rw [hm0]; simp
    have hnpos : 0 < n := Nat.pos_of_ne_zero h0
    have hpp : px ≤ py + more := by
      have h1 : 2 ^ m.log2 ≤ m := Nat.log2_self_le hm0
      have h2 : n < 2 ^ (n.log2 + 1) := Nat.lt_log2_self
      have h3 : 2 ^ m.log2 * 2 ^ px ≤ n * 2 ^ py := Nat.le_trans (Nat.mul_le_mul_right _ h1) h
      have h4 : n * 2 ^ py < 2 ^ (n.log2 + 1) * 2 ^ py := Nat.mul_lt_mul_of_pos_right h2 (Nat.two_pow_pos _)
      rw [← Nat.pow_add] at h3 h4
      have h5 := (Nat.pow_lt_pow_iff_right (a := 2) (by decide)).1 (Nat.lt_of_le_of_lt h3 h4)
      omega
    obtain ⟨d, hd⟩ : ∃ d, py + more = px + d := ⟨py + more - px, by omega⟩
    have h6 : m * 2 ^ more ≤ n * 2 ^ d := by
      have h7 : m * 2 ^ px * 2 ^ more ≤ n * 2 ^ py * 2 ^ more := Nat.mul_le_mul_right _ h
      rw [Nat.mul_assoc n, ← Nat.pow_add, hd, Nat.pow_add, Nat.mul_comm (2 ^ px), ← Nat.mul_assoc n, Nat.mul_assoc m, Nat.mul_comm (2 ^ px), ← Nat.mul_assoc m] at h7
      exact Nat.le_of_mul_le_mul_right h7 (Nat.two_pow_pos _)
    obtain ⟨D, hD⟩ : ∃ D, m * 2 ^ more = D := ⟨_, rfl⟩
    rw [hD] at h6 ⊢
    have hdm := Nat.div_add_mod D n
    have h8 : 2 * (D / n) + (D % n != 0).toNat ≤ 2 * 2 ^ d := by
      have h9 : D / n ≤ 2 ^ d := Nat.div_le_of_le_mul h6
      by_cases h10 : D / n = 2 ^ d
      · have : D % n = 0 := by rw [h10] at hdm; omega
        rw [this, h10]
        simp
      · have : (D % n != 0).toNat ≤ 1 := by cases (D % n != 0) <;> decide
        omega
    refine Nat.le_trans (Nat.mul_le_mul_right _ h8) (Nat.le_of_eq ?_)
    rw [show 2 * 2 ^ d = 2 ^ (d + 1) by rw [Nat.pow_succ]; omega, ← Nat.pow_add]
    congr 1
    omega
  obtain ⟨w1, w2, w3⟩ := nearest_word (sgnD x ^^ sgnD y) mag ((-1074 + (px : Int)) - (-1074 + (py : Int)) - (more : Int) - 1)
  refine ⟨_, hq, ?_, ?_⟩
  · rw [w1]
    obtain ⟨U, hU⟩ : ∃ U : Nat, U = 1074 := ⟨_, rfl⟩
    refine nearest_le (S := py + more + 1) (E := px + U) (by omega) ?_
    rw [VD_one hU, Nat.pow_add, ← Nat.mul_assoc, Nat.mul_comm (2 ^ U)]
    exact Nat.mul_le_mul_right _ hle
  · rw [w2]
    exact sgn_word w3

/-- the exact sum of two numbers, in units of 2 to the power of -1074 -/
def totD (x y : Nat) : Int := (if sgnD x then -(VD (absD x) : Int) else VD (absD x)) + (if sgnD y then -(VD (absD y) : Int) else VD (absD y))
theorem signed_val (s : Bool) (m k b : Nat) : signed s m k * (2 ^ b : Nat) = if s then -((m * 2 ^ (k + b) : Nat) : Int) else ((m * 2 ^ (k + b) : Nat) : Int) := by
  unfold signed
  rw [Nat.shiftLeft_eq, Nat.pow_add, ← Nat.mul_assoc]
  cases s
  · simp
  · simp [Int.neg_mul]
theorem sum_parts {x y : Nat} (hx : absD x < 9218868437227405312) (hy : absD y < 9218868437227405312) : ∃ (neg : Bool) (mag b : Nat), floatBits .add .f64 x y = some (double.nearest neg mag (-1074 + (b : Int))) ∧ ((mag * 2 ^ b : Nat) : Int) = (totD x y).natAbs ∧ (0 < totD x y → neg = false) ∧ (totD x y < 0 → neg = true) ∧ (totD x y = 0 → neg = (sgnD x && sgnD y)) := by
  obtain ⟨m, hm⟩ : ∃ m, manD (absD x) = m := ⟨_, rfl⟩
  obtain ⟨n, hn⟩ : ∃ n, manD (absD y) = n := ⟨_, rfl⟩
  obtain ⟨px, hpx⟩ : ∃ p, plcD (absD x) = p := ⟨_, rfl⟩
  obtain ⟨py, hpy⟩ : ∃ p, plcD (absD y) = p := ⟨_, rfl⟩
  have rx := readD hx
  have ry := readD hy
  rw [hm, hpx] at rx
  rw [hn, hpy] at ry
  obtain ⟨b, hb⟩ : ∃ b, min px py = b := ⟨_, rfl⟩
  have hbase : min (-1074 + (px : Int)) (-1074 + (py : Int)) = -1074 + (b : Int) := by omega
  obtain ⟨tot, htot⟩ : ∃ t, signed (sgnD x) m (px - b) + signed (sgnD y) n (py - b) = t := ⟨_, rfl⟩
  have hpos : (0 : Int) < ((2 ^ b : Nat) : Int) := by have := Nat.two_pow_pos b; omega
  have hT : totD x y = tot * (2 ^ b : Nat) := by
    rw [← htot, Int.add_mul, signed_val, signed_val, show px - b + b = px by omega, show py - b + b = py by omega]
    unfold totD VD
    rw [hm, hn, hpx, hpy]
  refine ⟨if tot = 0 then sgnD x && sgnD y else decide (tot < 0), tot.natAbs, b, ?_, ?_, ?_, ?_, ?_⟩
  · show (((double.read x).sum (double.read y)).map double.write) = _
    rw [rx, ry]
    unfold Datum.sum
    simp only [hbase]
    rw [show (-1074 + (px : Int) - (-1074 + (b : Int))).toNat = px - b by omega, show (-1074 + (py : Int) - (-1074 + (b : Int))).toNat = py - b by omega, htot]
    rfl
  · rw [hT, Int.natAbs_mul]
    simp
  · intro h
    rw [hT] at h
    have h0 : 0 < tot := by
      rcases Int.lt_trichotomy tot 0 with h1 | h1 | h1
      · have := Int.mul_neg_of_neg_of_pos h1 hpos; omega
      · rw [h1] at h; simp at h
      · exact h1
    rw [if_neg (by omega), decide_eq_false (by omega)]
  · intro h
    rw [hT] at h
    have h0 : tot < 0 := by
      rcases Int.lt_trichotomy tot 0 with h1 | h1 | h1
      · exact h1
      · rw [h1] at h; simp at h
      · have := Int.mul_pos h1 hpos; omega
    rw [if_neg (by omega), decide_eq_true h0]
  · intro h
    rw [hT] at h
    have h0 : tot = 0 := by
      rcases Int.lt_trichotomy tot 0 with h1 | h1 | h1
      · have := Int.mul_neg_of_neg_of_pos h1 hpos; omega
      · exact h1
      · have := Int.mul_pos h1 hpos; omega
    rw [if_pos h0]
/-- a sum's bound -/
theorem add_ab {x y c : Nat} (hx : absD x < 9218868437227405312) (hy : absD y < 9218868437227405312) (h : VD (absD x) + VD (absD y) ≤ VD c) : ∃ r, floatBits .add .f64 x y = some r ∧ absD r ≤ c := by
  obtain ⟨neg, mag, b, h1, h2, _, _, _⟩ := sum_parts hx hy
  refine ⟨_, h1, ?_⟩
  obtain ⟨w1, _, _⟩ := nearest_word neg mag (-1074 + (b : Int))
  rw [w1]
  refine nearest_le (S := 0) (E := b) (by omega) ?_
  have h3 : (totD x y).natAbs ≤ VD (absD x) + VD (absD y) := by
    unfold totD
    split <;> split <;> omega
  rw [Nat.pow_zero, Nat.mul_one]
  omega
/-- a sum that is not negative, from both sides -/
theorem add_pos {x y c e T : Nat} (hx : absD x < 9218868437227405312) (hy : absD y < 9218868437227405312) (hT : totD x y = (T : Int)) (hz : T = 0 → (sgnD x && sgnD y) = false) (hc : VD c ≤ T) (hci : c ≤ 9218868437227405312) (he : T ≤ VD e) : ∃ r, floatBits .add .f64 x y = some r ∧ c ≤ r ∧ r ≤ e := by
  obtain ⟨neg, mag, b, h1, h2, h3, h4, h5⟩ := sum_parts hx hy
  have hn : neg = false := by
    by_cases h0 : T = 0
    · rw [h5 (by omega)]; exact hz h0
    · exact h3 (by omega)
  subst hn
  have hm : mag * 2 ^ b = T := by omega
  refine ⟨_, h1, nearest_ge (S := 0) (E := b) hci (by omega) (by rw [Nat.pow_zero, Nat.mul_one]; omega), nearest_le (S := 0) (E := b) (by omega) (by rw [Nat.pow_zero, Nat.mul_one]; omega)⟩

end Go.Proofs.Ytopeidmafalklaa

namespace Go.Proofs.Ytopeidmafalklaa
open Ieee Go.RowKit

theorem VD_mono {a b : Nat} (h : a ≤ b) (hb : b ≤ 9218868437227405312) : VD a ≤ VD b := by
  by_cases hh : VD a ≤ VD b
  · exact hh
  exfalso
  have h1 := nearest_le (mag := manD a) (place := -1074 + (plcD a : Int)) (c := a) (S := 0) (E := plcD a) (by omega) (by rw [Nat.pow_zero, Nat.mul_one]; exact Nat.le_refl _)
  have h2 := nearest_ge (mag := manD a) (place := -1074 + (plcD a : Int)) (c := b) (S := 0) (E := plcD a) hb (by omega) (by rw [Nat.pow_zero, Nat.mul_one]; exact Nat.le_of_lt (Nat.lt_of_not_le hh))
  have e : a = b := by omega
  exact hh (by rw [e]; exact Nat.le_refl _)
theorem VF_mono {a b : Nat} (h : a ≤ b) (hb : b ≤ 2139095040) : VF a ≤ VF b := by
  by_cases hh : VF a ≤ VF b
  · exact hh
  exfalso
  have h1 := nearest_leF (mag := manF a) (place := -149 + (plcF a : Int)) (c := a) (S := 0) (E := plcF a) (by omega) (by rw [Nat.pow_zero, Nat.mul_one]; exact Nat.le_refl _)
  have h2 := nearest_geF (mag := manF a) (place := -149 + (plcF a : Int)) (c := b) (S := 0) (E := plcF a) hb (by omega) (by rw [Nat.pow_zero, Nat.mul_one]; exact Nat.le_of_lt (Nat.lt_of_not_le hh))
  have e : a = b := by omega
  exact hh (by rw [e]; exact Nat.le_refl _)

/-- the word without its sign, single precision -/
def absF (x : Nat) : Nat := x % 2147483648
def sgnF (x : Nat) : Bool := x / 2147483648 % 2 == 1
theorem readF {x : Nat} (h : absF x < 2139095040) : single.read x = .number (sgnF x) (manF (absF x)) (-149 + (plcF (absF x) : Int)) := by
  have el : single.leastPlace = -149 := by decide
  unfold absF at h
  unfold Format.read manF plcF absF sgnF
  simp only [sw32, bi32, ir32, el]
  by_cases h1 : x % 2147483648 < 8388608
  · rw [if_pos h1, if_pos h1, Nat.div_eq_of_lt h1]
    rfl
  · rw [if_neg h1, if_neg h1, if_pos h]
theorem nearest_wordF (neg : Bool) (mag : Nat) (place : Int) : absF (single.nearest neg mag place) = single.nearest false mag place ∧ (single.nearest neg mag place = single.word neg (single.nearest false mag place)) ∧ single.nearest false mag place ≤ 2139095040 := by
  have hw : ∀ r, single.word false r = r := fun r => rfl
  have hle : single.nearest false mag place ≤ 2139095040 := by
    unfold Format.nearest
    split
    · rw [hw]; exact Nat.zero_le _
    · dsimp only
      rw [hw, ir32]
      exact Nat.min_le_right _ _
  have he : single.nearest neg mag place = single.word neg (single.nearest false mag place) := by
    unfold Format.nearest
    split
    · rw [hw]
    · dsimp only
      rw [hw, cut_even]
  refine ⟨?_, he, hle⟩
  rw [he]
  unfold absF
  obtain ⟨r, hr⟩ : ∃ r, single.nearest false mag place = r := ⟨_, rfl⟩
  rw [hr] at hle ⊢
  cases neg
  · rw [hw]; omega
  · have : single.word true r = 2147483648 + r := by unfold Format.word; rw [sw32]; rfl
    rw [this]; omega
theorem sgn_wordF {neg : Bool} {r : Nat} (h : r ≤ 2139095040) : sgnF (single.word neg r) = neg := by
  unfold sgnF
  cases neg
  · have : single.word false r = r := rfl
    rw [this, Nat.div_eq_of_lt (by omega)]
    rfl
  · have : single.word true r = 2147483648 + r := by unfold Format.word; rw [sw32]; rfl
    rw [this, show (2147483648 + r) / 2147483648 = 1 by omega]
    rfl
/-- narrowing a number that lies within a finite bound -/
theorem narrow_ab {x c : Nat} (hx : absD x < 9218868437227405312) (hc : c < 2139095040) {U : Nat} (hU : U = 925) (h : VD (absD x) ≤ VF c * 2 ^ U) : ∃ r, floatToFloatBits .f64 x .f32 = some r ∧ absF r ≤ c ∧ sgnF r = sgnD x ∧ ∀ b, b ≤ 2139095040 → VF b * 2 ^ U ≤ VD (absD x) → b ≤ absF r := by
  obtain ⟨h1, h2, h3⟩ := nearest_wordF (sgnD x) (manD (absD x)) (-1074 + (plcD (absD x) : Int))
  have h4 : single.nearest false (manD (absD x)) (-1074 + (plcD (absD x) : Int)) ≤ c := nearest_leF (S := U) (E := plcD (absD x)) (by omega) h
  refine ⟨single.nearest (sgnD x) (manD (absD x)) (-1074 + (plcD (absD x) : Int)), ?_, ?_, ?_, ?_⟩
  · unfold floatToFloatBits
    rw [if_neg (by decide)]
    have hr : FloatKind.f64.decode x = .number (sgnD x) (manD (absD x)) (-1074 + (plcD (absD x) : Int)) := readD hx
    rw [hr]
    have hi : (FloatKind.f32.decode (FloatKind.f32.encode (.number (sgnD x) (manD (absD x)) (-1074 + (plcD (absD x) : Int))))).isInfinity = false := by
      show (single.read (single.nearest (sgnD x) (manD (absD x)) (-1074 + (plcD (absD x) : Int)))).isInfinity = false
      rw [h2]
      exact read_rung single _ _ (by rw [ir32]; omega)
    simp only
    rw [hi]
    rfl
  · rw [h1]; exact h4
  · rw [h2]; exact sgn_wordF h3
  · intro b hb hv
    rw [h1]
    exact nearest_geF (S := U) (E := plcD (absD x)) hb (by omega) hv
/-- the opposite word -/
def oppD (y : Nat) : Nat := if sgnD y then absD y else absD y + 9223372036854775808
theorem opp_parts (y : Nat) : absD (oppD y) = absD y ∧ sgnD (oppD y) = !sgnD y := by
  have h : absD y < 9223372036854775808 := Nat.mod_lt _ (by decide)
  unfold oppD
  obtain ⟨a, ha⟩ : ∃ a, absD y = a := ⟨_, rfl⟩
  rw [ha] at h ⊢
  cases hs : sgnD y
  · refine ⟨?_, ?_⟩
    · unfold absD; simp; omega
    · unfold sgnD; simp; omega
  · refine ⟨?_, ?_⟩
    · unfold absD; simp; omega
    · unfold sgnD; simp; omega
/-- widening: the number stays the number -/
theorem widen_is {x : Nat} (hx : absF x < 2139095040) {U : Nat} (hU : U = 925) : ∃ r, floatToFloatBits .f32 x .f64 = some r ∧ sgnD r = sgnF x ∧ absD r < 9218868437227405312 ∧ (∀ b, VF (absF x) * 2 ^ U ≤ VD b → absD r ≤ b) ∧ (∀ b, b ≤ 9218868437227405312 → VD b ≤ VF (absF x) * 2 ^ U → b ≤ absD r) := by
  obtain ⟨h1, h2, h3⟩ := nearest_word (sgnF x) (manF (absF x)) (-149 + (plcF (absF x) : Int))
  have hp : plcF (absF x) ≤ 253 := by unfold plcF; omega
  have hfin : (double.read (double.nearest (sgnF x) (manF (absF x)) (-149 + (plcF (absF x) : Int)))).isInfinity = false := wide_finite _ _ _ (manF_lt _) (by omega)
  refine ⟨double.nearest (sgnF x) (manF (absF x)) (-149 + (plcF (absF x) : Int)), ?_, ?_, ?_, ?_, ?_⟩
  · unfold floatToFloatBits
    rw [if_neg (by decide)]
    have hr : FloatKind.f32.decode x = .number (sgnF x) (manF (absF x)) (-149 + (plcF (absF x) : Int)) := readF hx
    rw [hr]
    have hi : (FloatKind.f64.decode (FloatKind.f64.encode (.number (sgnF x) (manF (absF x)) (-149 + (plcF (absF x) : Int))))).isInfinity = false := hfin
    simp only
    rw [hi]
    rfl
  · rw [h2]; exact sgn_word h3
  · rw [h1]
    refine Nat.lt_of_le_of_ne h3 (fun he => ?_)
    rw [h2, he] at hfin
    revert hfin
    cases sgnF x <;> decide
  · intro b hv
    rw [h1]
    refine nearest_le (S := 0) (E := U + plcF (absF x)) (by omega) ?_
    rw [Nat.pow_zero, Nat.mul_one, Nat.pow_add, Nat.mul_comm (2 ^ U), ← Nat.mul_assoc]
    exact hv
  · intro b hb hv
    rw [h1]
    refine nearest_ge (S := 0) (E := U + plcF (absF x)) hb (by omega) ?_
    rw [Nat.pow_zero, Nat.mul_one, Nat.pow_add, Nat.mul_comm (2 ^ U), ← Nat.mul_assoc]
    exact hv
/-- a difference is the sum with the opposite -/
theorem sub_opp {x y : Nat} (hy : absD y < 9218868437227405312) : floatBits .sub .f64 x y = floatBits .add .f64 x (oppD y) := by
  obtain ⟨o1, o2⟩ := opp_parts y
  have hr := readD hy
  have ho := readD (x := oppD y) (by rw [o1]; exact hy)
  rw [o1, o2] at ho
  show (((double.read x).sum (double.read y).opposite).map double.write) = (((double.read x).sum (double.read (oppD y))).map double.write)
  rw [hr, ho]
  rfl

end Go.Proofs.Ytopeidmafalklaa

namespace Go.Proofs.Ytopeidmafalklaa
open Ieee Go.RowKit

theorem bits_lt {op : BinOp} {x y r : Nat} (h : floatBits op .f64 x y = some r) : r < 18446744073709551616 := by
  have hw := floatBits_wf h
  simp [Lit.wf] at hw
  exact hw
theorem abs_pos {r : Nat} (h : r < 18446744073709551616) (hs : sgnD r = false) : absD r = r := by
  unfold sgnD at hs
  unfold absD
  have : r / 9223372036854775808 % 2 ≠ 1 := fun e => by rw [e] at hs; exact absurd hs (by decide)
  omega
theorem abs_of {r : Nat} (h : r ≤ 9218868437227405312) : absD r = r ∧ sgnD r = false := by
  unfold absD sgnD
  rw [Nat.mod_eq_of_lt (by omega), Nat.div_eq_of_lt (by omega)]
  exact ⟨rfl, rfl⟩
theorem VD_nought : VD 0 = 0 := by decide
/-- one step of the row: 1 + t*p/k -/
theorem exp_step {t p k : Nat} (ht : absD t ≤ 4607182418800017408) (hs : sgnD t = true) (hp : p ≤ 4607182418800017408) (hk : 4607182418800017408 ≤ k) (hki : k < 9218868437227405312) :
    ∃ a b r, floatBits .mul .f64 t p = some a ∧ floatBits .quo .f64 a k = some b ∧ floatBits .add .f64 4607182418800017408 b = some r ∧ r ≤ 4607182418800017408 := by
  obtain ⟨U, hU⟩ : ∃ U, U = 1074 := ⟨_, rfl⟩
  have h1 := VD_one hU
  obtain ⟨p1, p2⟩ := abs_of (r := p) (by omega)
  obtain ⟨k1, k2⟩ := abs_of (r := k) (by omega)
  obtain ⟨o1, o2⟩ := abs_of (r := 4607182418800017408) (by omega)
  have vt := VD_mono ht (by decide)
  have vp := VD_mono hp (by decide)
  have vk := VD_mono hk (by omega)
  obtain ⟨a, ha, ha1, ha2⟩ := mul_ab (x := t) (y := p) (c := 4607182418800017408) (by omega) (by rw [p1]; omega) hU (by rw [p1, ← h1]; exact Nat.mul_le_mul vt vp)
  rw [hs, p2] at ha2
  have va := VD_mono ha1 (by decide)
  have hm0 : manD k ≠ 0 := by
    intro h0
    have : VD k = 0 := by unfold VD; rw [h0, Nat.zero_mul]
    have := Nat.two_pow_pos U
    omega
  obtain ⟨b, hb, hb1, hb2⟩ := quo_one (x := a) (y := k) (by omega) (by rw [k1]; exact hki) (by rw [k1]; exact hm0) (by rw [k1]; omega)
  rw [ha2, k2] at hb2
  have vb := VD_mono hb1 (by decide)
  obtain ⟨r, hr, _, hr2⟩ := add_pos (x := 4607182418800017408) (y := b) (c := 0) (e := 4607182418800017408) (T := VD 4607182418800017408 - VD (absD b)) (by decide) (by omega) (by
    unfold totD
    rw [o1, o2, hb2]
    simp
    omega) (by intro _; rw [o2]; rfl) (by rw [VD_nought]; omega) (by omega) (by omega)
  exact ⟨a, b, r, ha, hb, hr, hr2⟩
/-- a square -/
theorem sq_step {p : Nat} (hp : p ≤ 4607182418800017408) : ∃ r, floatBits .mul .f64 p p = some r ∧ r ≤ 4607182418800017408 := by
  obtain ⟨U, hU⟩ : ∃ U, U = 1074 := ⟨_, rfl⟩
  have h1 := VD_one hU
  obtain ⟨p1, p2⟩ := abs_of (r := p) (by omega)
  have vp := VD_mono hp (by decide)
  obtain ⟨a, ha, ha1, ha2⟩ := mul_ab (x := p) (y := p) (c := 4607182418800017408) (by rw [p1]; omega) (by rw [p1]; omega) hU (by rw [p1, ← h1]; exact Nat.mul_le_mul vp vp)
  rw [p2] at ha2
  exact ⟨a, ha, by rw [← abs_pos (bits_lt ha) ha2]; exact ha1⟩
theorem VF_one {U V : Nat} (hU : U = 925) (hV : V = 1074) : VF 1065353216 * 2 ^ U = 2 ^ V := by
  have h1 : manF 1065353216 = 2 ^ 23 := by decide
  have h2 : plcF 1065353216 = 126 := by decide
  unfold VF
  rw [h1, h2, ← Nat.pow_add, ← Nat.pow_add]
  congr 1
  omega
/-- the result, narrowed -/
theorem exp_narrow {p : Nat} (hp : p ≤ 4607182418800017408) : ∃ r, floatToFloatBits .f64 p .f32 = some r ∧ r ≤ 1065353216 := by
  obtain ⟨U, hU⟩ : ∃ U, U = 925 := ⟨_, rfl⟩
  obtain ⟨V, hV⟩ : ∃ V, V = 1074 := ⟨_, rfl⟩
  obtain ⟨p1, p2⟩ := abs_of (r := p) (by omega)
  obtain ⟨r, hr, hr1, hr2, _⟩ := narrow_ab (x := p) (c := 1065353216) (by rw [p1]; omega) (by decide) hU (by rw [p1, VF_one hU hV, ← VD_one hV]; exact VD_mono hp (by decide))
  refine ⟨r, hr, ?_⟩
  have hw := floatToFloatBits_wf (src := .f64) (dst := .f32) (bits := p) (r := r) (by simp [Lit.wf]; omega) hr
  simp [Lit.wf] at hw
  unfold sgnF at hr2
  rw [p2] at hr2
  unfold absF at hr1
  have : r / 2147483648 % 2 ≠ 1 := fun e => by rw [e] at hr2; exact absurd hr2 (by decide)
  have hw' : r < 4294967296 := hw
  omega

end Go.Proofs.Ytopeidmafalklaa

namespace Go.Proofs.Ytopeidmafalklaa
open Ieee Go.RowKit

/-- the exact sum of two numbers, in units of 2 to the power of -149 -/
def totF (x y : Nat) : Int := (if sgnF x then -(VF (absF x) : Int) else VF (absF x)) + (if sgnF y then -(VF (absF y) : Int) else VF (absF y))
theorem sum_partsF {x y : Nat} (hx : absF x < 2139095040) (hy : absF y < 2139095040) : ∃ (neg : Bool) (mag b : Nat), floatBits .add .f32 x y = some (single.nearest neg mag (-149 + (b : Int))) ∧ ((mag * 2 ^ b : Nat) : Int) = (totF x y).natAbs ∧ (0 < totF x y → neg = false) ∧ (totF x y < 0 → neg = true) ∧ (totF x y = 0 → neg = (sgnF x && sgnF y)) := by
  obtain ⟨m, hm⟩ : ∃ m, manF (absF x) = m := ⟨_, rfl⟩
  obtain ⟨n, hn⟩ : ∃ n, manF (absF y) = n := ⟨_, rfl⟩
  obtain ⟨px, hpx⟩ : ∃ p, plcF (absF x) = p := ⟨_, rfl⟩
  obtain ⟨py, hpy⟩ : ∃ p, plcF (absF y) = p := ⟨_, rfl⟩
  have rx := readF hx
  have ry := readF hy
  rw [hm, hpx] at rx
  rw [hn, hpy] at ry
  obtain ⟨b, hb⟩ : ∃ b, min px py = b := ⟨_, rfl⟩
  have hbase : min (-149 + (px : Int)) (-149 + (py : Int)) = -149 + (b : Int) := by omega
  obtain ⟨tot, htot⟩ : ∃ t, signed (sgnF x) m (px - b) + signed (sgnF y) n (py - b) = t := ⟨_, rfl⟩
  have hpos : (0 : Int) < ((2 ^ b : Nat) : Int) := by have := Nat.two_pow_pos b; omega
  have hT : totF x y = tot * (2 ^ b : Nat) := by
    rw [← htot, Int.add_mul, signed_val, signed_val, show px - b + b = px by omega, show py - b + b = py by omega]
    unfold totF VF
    rw [hm, hn, hpx, hpy]
  refine ⟨if tot = 0 then sgnF x && sgnF y else decide (tot < 0), tot.natAbs, b, ?_, ?_, ?_, ?_, ?_⟩
  · show (((single.read x).sum (single.read y)).map single.write) = _
    rw [rx, ry]
    unfold Datum.sum
    simp only [hbase]
    rw [show (-149 + (px : Int) - (-149 + (b : Int))).toNat = px - b by omega, show (-149 + (py : Int) - (-149 + (b : Int))).toNat = py - b by omega, htot]
    rfl
  · rw [hT, Int.natAbs_mul]
    simp
  · intro h
    rw [hT] at h
    have h0 : 0 < tot := by
      rcases Int.lt_trichotomy tot 0 with h1 | h1 | h1
      · have := Int.mul_neg_of_neg_of_pos h1 hpos; omega
      · rw [h1] at h; simp at h
      · exact h1
    rw [if_neg (by omega), decide_eq_false (by omega)]
  · intro h
    rw [hT] at h
    have h0 : tot < 0 := by
      rcases Int.lt_trichotomy tot 0 with h1 | h1 | h1
      · exact h1
      · rw [h1] at h; simp at h
      · have := Int.mul_pos h1 hpos; omega
    rw [if_neg (by omega), decide_eq_true h0]
  · intro h
    rw [hT] at h
    have h0 : tot = 0 := by
      rcases Int.lt_trichotomy tot 0 with h1 | h1 | h1
      · have := Int.mul_neg_of_neg_of_pos h1 hpos; omega
      · exact h1
      · have := Int.mul_pos h1 hpos; omega
    rw [if_pos h0]
/-- a sum's bound -/
theorem add_abF {x y c : Nat} (hx : absF x < 2139095040) (hy : absF y < 2139095040) (h : VF (absF x) + VF (absF y) ≤ VF c) : ∃ r, floatBits .add .f32 x y = some r ∧ absF r ≤ c := by
  obtain ⟨neg, mag, b, h1, h2, _, _, _⟩ := sum_partsF hx hy
  refine ⟨_, h1, ?_⟩
  obtain ⟨w1, _, _⟩ := nearest_wordF neg mag (-149 + (b : Int))
  rw [w1]
  refine nearest_leF (S := 0) (E := b) (by omega) ?_
  have h3 : (totF x y).natAbs ≤ VF (absF x) + VF (absF y) := by
    unfold totF
    split <;> split <;> omega
  rw [Nat.pow_zero, Nat.mul_one]
  omega
/-- a sum that is not negative, from both sides -/
theorem add_posF {x y c e T : Nat} (hx : absF x < 2139095040) (hy : absF y < 2139095040) (hT : totF x y = (T : Int)) (hz : T = 0 → (sgnF x && sgnF y) = false) (hc : VF c ≤ T) (hci : c ≤ 2139095040) (he : T ≤ VF e) : ∃ r, floatBits .add .f32 x y = some r ∧ c ≤ r ∧ r ≤ e := by
  obtain ⟨neg, mag, b, h1, h2, h3, h4, h5⟩ := sum_partsF hx hy
  have hn : neg = false := by
    by_cases h0 : T = 0
    · rw [h5 (by omega)]; exact hz h0
    · exact h3 (by omega)
  subst hn
  have hm : mag * 2 ^ b = T := by omega
  refine ⟨_, h1, nearest_geF (S := 0) (E := b) hci (by omega) (by rw [Nat.pow_zero, Nat.mul_one]; omega), nearest_leF (S := 0) (E := b) (by omega) (by rw [Nat.pow_zero, Nat.mul_one]; omega)⟩

end Go.Proofs.Ytopeidmafalklaa

namespace Go.Proofs.Ytopeidmafalklaa
open Ieee Go.RowKit

/-- the word of 2 to the power of n -/
def W2 (n : Nat) : Nat := 4607182418800017408 + n * 4503599627370496
theorem VD_W2 {U n : Nat} (hU : U = 1074) : VD (W2 n) = 2 ^ (U + n) := by
  have h1 : manD (W2 n) = 2 ^ 52 := by
    unfold manD W2
    rw [if_neg (by omega), show (2 : Nat) ^ 52 = 4503599627370496 by decide]
    omega
  obtain ⟨V, hV⟩ : ∃ V, V = 1022 := ⟨_, rfl⟩
  have h2 : plcD (W2 n) = V + n := by unfold plcD W2; omega
  unfold VD
  rw [h1, h2, ← Nat.pow_add]
  congr 1
  omega
theorem W2_mono {a b : Nat} (h : a ≤ b) : W2 a ≤ W2 b := by unfold W2; omega
theorem W2_fin {n : Nat} (h : n ≤ 1000) : W2 n < 9218868437227405312 := by unfold W2; omega
/-- one step of the row: i + u*q -/
theorem log_step {u q i n : Nat} (hn : n ≤ 100) (hu : u ≤ 4607182418800017408) (hi : i ≤ 4607182418800017408) (hq : q ≤ W2 n) :
    ∃ a r, floatBits .mul .f64 u q = some a ∧ floatBits .add .f64 i a = some r ∧ r ≤ W2 (n + 1) := by
  obtain ⟨U, hU⟩ : ∃ U, U = 1074 := ⟨_, rfl⟩
  have h1 := VD_one hU
  have f1 := W2_fin (n := n) (by omega)
  have f2 := W2_fin (n := n + 1) (by omega)
  obtain ⟨q1, q2⟩ := abs_of (r := q) (by omega)
  obtain ⟨u1, u2⟩ := abs_of (r := u) (by omega)
  obtain ⟨i1, i2⟩ := abs_of (r := i) (by omega)
  have vu := VD_mono hu (by decide)
  have vi := VD_mono hi (by decide)
  have vq := VD_mono hq (by omega)
  obtain ⟨a, ha, ha1, ha2⟩ := mul_ab (x := u) (y := q) (c := W2 n) (by omega) (by omega) hU (by
    rw [u1, q1, Nat.mul_comm, ← h1]; exact Nat.mul_le_mul vq vu)
  rw [u2, q2] at ha2
  have va := VD_mono ha1 (by omega)
  have haa := abs_pos (bits_lt ha) ha2
  obtain ⟨r, hr, _, hr2⟩ := add_pos (x := i) (y := a) (c := 0) (e := W2 (n + 1)) (T := VD i + VD (absD a)) (by omega) (by omega) (by
    unfold totD
    rw [i1, i2, ha2]
    simp) (by intro _; rw [i2]; rfl) (by rw [VD_nought]; omega) (by omega) (by
    rw [VD_W2 hU, ← Nat.add_assoc, Nat.pow_succ]
    rw [VD_W2 hU] at va
    rw [h1] at vi
    have : 2 ^ U ≤ 2 ^ (U + n) := Nat.pow_le_pow_right (by decide) (by omega)
    omega)
  exact ⟨a, r, ha, hr, hr2⟩
/-- the quotient (y-1)/(y+1) for y from nought to two, and its square -/
theorem log_quo {y : Nat} (hy : y ≤ W2 1) :
    ∃ a b s u, floatBits .sub .f64 y 4607182418800017408 = some a ∧ floatBits .add .f64 y 4607182418800017408 = some b ∧ floatBits .quo .f64 a b = some s ∧ absD s ≤ 4607182418800017408 ∧ floatBits .mul .f64 s s = some u ∧ u ≤ 4607182418800017408 := by
  obtain ⟨U, hU⟩ : ∃ U, U = 1074 := ⟨_, rfl⟩
  have h1 := VD_one hU
  have f1 := W2_fin (n := 1) (by decide)
  have f2 := W2_fin (n := 2) (by decide)
  obtain ⟨y1, y2⟩ := abs_of (r := y) (by omega)
  obtain ⟨o1, o2⟩ := abs_of (r := 4607182418800017408) (by decide)
  obtain ⟨p1, p2⟩ := opp_parts 4607182418800017408
  rw [o1] at p1
  rw [o2] at p2
  have vy := VD_mono hy (by omega)
  rw [VD_W2 hU, Nat.pow_succ] at vy
  obtain ⟨neg, mag, k, ea, e2, _, _, _⟩ := sum_parts (x := y) (y := oppD 4607182418800017408) (by omega) (by rw [p1]; decide)
  have htot : totD y (oppD 4607182418800017408) = (VD y : Int) - (VD 4607182418800017408 : Int) := by
    unfold totD
    rw [y1, y2, p1, p2]
    simp
    omega
  obtain ⟨w1, _, _⟩ := nearest_word neg mag (-1074 + (k : Int))
  have ha1 : absD (double.nearest neg mag (-1074 + (k : Int))) ≤ 4607182418800017408 := by
    rw [w1]
    refine nearest_le (S := 0) (E := k) (by omega) ?_
    rw [Nat.pow_zero, Nat.mul_one]
    omega
  have ha : floatBits .sub .f64 y 4607182418800017408 = some (double.nearest neg mag (-1074 + (k : Int))) := by
    rw [sub_opp (by decide)]; exact ea
  obtain ⟨a, hae⟩ : ∃ a, double.nearest neg mag (-1074 + (k : Int)) = a := ⟨_, rfl⟩
  rw [hae] at ha ha1
  have va := VD_mono ha1 (by decide)
  obtain ⟨b, hb, hb1, hb2⟩ := add_pos (x := y) (y := 4607182418800017408) (c := 4607182418800017408) (e := W2 2) (T := VD y + VD 4607182418800017408) (by omega) (by decide) (by
    unfold totD
    rw [y1, y2, o1, o2]
    simp) (by intro _; rw [y2]; rfl) (by omega) (by decide) (by
    rw [VD_W2 hU, show U + 2 = U + 1 + 1 by omega, Nat.pow_succ, Nat.pow_succ]
    omega)
  obtain ⟨b1, b2⟩ := abs_of (r := b) (by omega)
  have vb := VD_mono hb1 (by omega)
  have hm0 : manD b ≠ 0 := by
    intro h0
    have : VD b = 0 := by unfold VD; rw [h0, Nat.zero_mul]
    have := Nat.two_pow_pos U
    omega
  obtain ⟨s, hs, hs1, hs2⟩ := quo_one (x := a) (y := b) (by omega) (by omega) (by rw [b1]; exact hm0) (by rw [b1]; omega)
  have vs := VD_mono hs1 (by decide)
  obtain ⟨u, hu, hu1, hu2⟩ := mul_ab (x := s) (y := s) (c := 4607182418800017408) (by omega) (by omega) hU (by rw [← h1]; exact Nat.mul_le_mul vs vs)
  rw [show (sgnD s ^^ sgnD s) = false by cases sgnD s <;> rfl] at hu2
  exact ⟨a, b, s, u, ha, hb, hs, hs1, hu, by rw [← abs_pos (bits_lt hu) hu2]; exact hu1⟩

end Go.Proofs.Ytopeidmafalklaa

namespace Go.Proofs.Ytopeidmafalklaa
open Ieee Go.RowKit

theorem VF_W2 {U V : Nat} (n : Nat) (hU : U = 925) (hV : V = 1074) : VF (1065353216 + n * 8388608) * 2 ^ U = 2 ^ (V + n) := by
  have h1 : manF (1065353216 + n * 8388608) = 2 ^ 23 := by
    unfold manF
    rw [if_neg (by omega), show (2 : Nat) ^ 23 = 8388608 by decide]
    omega
  have h2 : plcF (1065353216 + n * 8388608) = 126 + n := by unfold plcF; omega
  unfold VF
  rw [h1, h2, ← Nat.pow_add, ← Nat.pow_add]
  congr 1
  omega
theorem mul_bd {x y a b : Nat} (ha : a + b ≤ 1000) (hx : absD x ≤ W2 a) (hy : absD y ≤ W2 b) : ∃ r, floatBits .mul .f64 x y = some r ∧ absD r ≤ W2 (a + b) ∧ sgnD r = (sgnD x ^^ sgnD y) := by
  obtain ⟨U, hU⟩ : ∃ U, U = 1074 := ⟨_, rfl⟩
  have f1 := W2_fin (n := a) (by omega)
  have f2 := W2_fin (n := b) (by omega)
  have f3 := W2_fin (n := a + b) ha
  have vx := VD_mono hx (by omega)
  have vy := VD_mono hy (by omega)
  refine mul_ab (by omega) (by omega) hU ?_
  refine Nat.le_trans (Nat.mul_le_mul vx vy) (Nat.le_of_eq ?_)
  rw [VD_W2 hU, VD_W2 hU, VD_W2 hU, ← Nat.pow_add, ← Nat.pow_add]
  congr 1
  omega
/-- 2*(s*q) + e*c -/
theorem log_end {s q e : Nat} (hs : absD s ≤ 4607182418800017408) (hq : q ≤ W2 13) (he : e ≤ 4607182418800017408) :
    ∃ a b c d r, floatBits .mul .f64 s q = some a ∧ floatBits .mul .f64 4611686018427387904 a = some b ∧ floatBits .mul .f64 e 4604418534313441775 = some c ∧ floatBits .add .f64 b c = some d ∧ absD d ≤ W2 15 ∧ floatToFloatBits .f64 d .f32 = some r ∧ absF r ≤ 1191182336 := by
  obtain ⟨U, hU⟩ : ∃ U, U = 1074 := ⟨_, rfl⟩
  obtain ⟨V, hV⟩ : ∃ V, V = 925 := ⟨_, rfl⟩
  have f13 := W2_fin (n := 13) (by decide)
  have f14 := W2_fin (n := 14) (by decide)
  have f15 := W2_fin (n := 15) (by decide)
  obtain ⟨q1, _⟩ := abs_of (r := q) (by omega)
  obtain ⟨e1, _⟩ := abs_of (r := e) (by omega)
  have w0 : (4607182418800017408 : Nat) = W2 0 := by decide
  have w1 : absD 4611686018427387904 ≤ W2 1 := by decide
  have wc : absD 4604418534313441775 ≤ W2 0 := by decide
  obtain ⟨a, ha, ha1, _⟩ := mul_bd (x := s) (y := q) (a := 0) (b := 13) (by decide) (by rw [← w0]; exact hs) (by rw [q1]; exact hq)
  obtain ⟨b, hb, hb1, _⟩ := mul_bd (x := 4611686018427387904) (y := a) (a := 1) (b := 13) (by decide) w1 ha1
  obtain ⟨c, hc, hc1, _⟩ := mul_bd (x := e) (y := 4604418534313441775) (a := 0) (b := 0) (by decide) (by rw [e1, ← w0]; exact he) wc
  have vb := VD_mono hb1 (by decide)
  have vc := VD_mono hc1 (by decide)
  rw [VD_W2 hU] at vb vc
  obtain ⟨d, hd, hd1⟩ := add_ab (x := b) (y := c) (c := W2 15) (Nat.lt_of_le_of_lt hb1 (by decide)) (Nat.lt_of_le_of_lt hc1 (by decide)) (by
    rw [VD_W2 hU, Nat.pow_succ 2 (U + 14)]
    have : 2 ^ (U + (0 + 0)) ≤ 2 ^ (U + 14) := Nat.pow_le_pow_right (by decide) (by omega)
    have h14 : 2 ^ (U + (1 + 13)) = 2 ^ (U + 14) := rfl
    omega)
  obtain ⟨r, hr, hr1, _⟩ := narrow_ab (x := d) (c := 1191182336) (by omega) (by decide) hV (by
    have h := VF_W2 15 hV hU
    rw [show 1065353216 + 15 * 8388608 = 1191182336 by decide] at h
    rw [h, ← VD_W2 hU]
    exact VD_mono hd1 (by omega))
  exact ⟨a, b, c, d, r, ha, hb, hc, hd, hd1, hr, hr1⟩
/-- widening a number from one to two -/
theorem widen_12 {z : Nat} (h1 : 1065353216 ≤ z) (h2 : z ≤ 1073741824) : ∃ r, floatToFloatBits .f32 z .f64 = some r ∧ 4607182418800017408 ≤ r ∧ r ≤ 4611686018427387904 := by
  obtain ⟨U, hU⟩ : ∃ U, U = 1074 := ⟨_, rfl⟩
  obtain ⟨V, hV⟩ : ∃ V, V = 925 := ⟨_, rfl⟩
  have za : absF z = z := by unfold absF; omega
  have zs : sgnF z = false := by unfold sgnF; rw [Nat.div_eq_of_lt (by omega)]; rfl
  obtain ⟨r, hr, hs, hf, hle, hge⟩ := widen_is (x := z) (by omega) hV
  rw [za] at hle hge
  rw [zs] at hs
  have v0 := VF_W2 0 hV hU
  have v1 := VF_W2 1 hV hU
  have m1 := VF_mono h1 (by omega)
  have m2 := VF_mono h2 (by decide)
  have hl := hle (W2 1) (by
    rw [VD_W2 hU, ← v1]
    exact Nat.mul_le_mul_right _ (by rw [show 1065353216 + 1 * 8388608 = 1073741824 by decide]; exact m2))
  have hg := hge (W2 0) (by decide) (by
    rw [VD_W2 hU, ← v0]
    exact Nat.mul_le_mul_right _ (by rw [show 1065353216 + 0 * 8388608 = 1065353216 by decide]; exact m1))
  have hb := floatToFloatBits_wf (src := .f32) (dst := .f64) (bits := z) (r := r) (by simp [Lit.wf]; omega) hr
  simp [Lit.wf] at hb
  have hra := abs_pos (r := r) hb hs
  rw [hra] at hl hg
  refine ⟨r, hr, ?_, ?_⟩
  · have : W2 0 = 4607182418800017408 := by decide
    omega
  · have : W2 1 = 4611686018427387904 := by decide
    omega
/-- narrowed numbers from nought to one, one added -/
theorem add_one_12 {e : Nat} (he : e ≤ 1065353216) : ∃ z, floatBits .add .f32 1065353216 e = some z ∧ 1065353216 ≤ z ∧ z ≤ 1073741824 := by
  have ea : absF e = e := by unfold absF; omega
  have es : sgnF e = false := by unfold sgnF; rw [Nat.div_eq_of_lt (by omega)]; rfl
  have o1 : absF 1065353216 = 1065353216 := by decide
  have o2 : sgnF 1065353216 = false := by decide
  have m2 := VF_mono he (by decide)
  have h2 : VF 1073741824 = 2 * VF 1065353216 := by
    unfold VF
    rw [show manF 1073741824 = 8388608 by decide, show manF 1065353216 = 8388608 by decide, show plcF 1073741824 = 127 by decide, show plcF 1065353216 = 126 by decide]
  exact add_posF (x := 1065353216) (y := e) (T := VF 1065353216 + VF e) (by decide) (by omega) (by
    unfold totF
    rw [o1, o2, ea, es]
    simp) (by intro _; rw [o2]; rfl) (by omega) (by decide) (by omega)

end Go.Proofs.Ytopeidmafalklaa

namespace Go.Proofs.Ytopeidmafalklaa
open Ieee Go.RowKit

/-- the words of 12, 11, .. 1 -/
def expKs : List Nat := [4622945017495814144, 4622382067542392832, 4621819117588971520, 4621256167635550208, 4620693217682128896, 4619567317775286272, 4618441417868443648, 4617315517961601024, 4616189618054758400, 4613937818241073152, 4611686018427387904, 4607182418800017408]
/-- the words of 25, 23, .. 1 -/
def logKs : List Nat := [4627730092099895296, 4627167142146473984, 4626604192193052672, 4626041242239631360, 4625478292286210048, 4624633867356078080, 4623507967449235456, 4622382067542392832, 4621256167635550208, 4619567317775286272, 4617315517961601024, 4613937818241073152, 4607182418800017408]
def expRow (t : Nat) : List Nat → Nat → Option Nat
  | [], p => some p
  | k :: ks, p => (floatBits .mul .f64 t p).bind fun a => (floatBits .quo .f64 a k).bind fun b => (floatBits .add .f64 4607182418800017408 b).bind fun r => expRow t ks r
def sqRow : Nat → Nat → Option Nat
  | 0, p => some p
  | n + 1, p => (floatBits .mul .f64 p p).bind fun r => sqRow n r
def expWide (y : Nat) : Option Nat := (floatBits .quo .f64 y 4643211215818981376).bind fun t => (expRow t expKs 4607182418800017408).bind fun p => sqRow 8 p
theorem expRow_some {t : Nat} (ht : absD t ≤ 4607182418800017408) (hs : sgnD t = true) : ∀ (ks : List Nat) (p : Nat), (∀ k ∈ ks, 4607182418800017408 ≤ k ∧ k < 9218868437227405312) → p ≤ 4607182418800017408 → ∃ r, expRow t ks p = some r ∧ r ≤ 4607182418800017408
  | [], p, _, hp => ⟨p, rfl, hp⟩
  | k :: ks, p, hk, hp => by
    obtain ⟨k1, k2⟩ := hk k (List.mem_cons_self ..)
    obtain ⟨a, b, r, ha, hb, hr, hr1⟩ := exp_step ht hs hp k1 k2
    obtain ⟨z, hz, hz1⟩ := expRow_some ht hs ks r (fun k h => hk k (List.mem_cons_of_mem _ h)) hr1
    refine ⟨z, ?_, hz1⟩
    unfold expRow
    rw [ha]; simp only [Option.bind_some]
    rw [hb]; simp only [Option.bind_some]
    rw [hr]; exact hz
theorem sqRow_some : ∀ (n p : Nat), p ≤ 4607182418800017408 → ∃ r, sqRow n p = some r ∧ r ≤ 4607182418800017408
  | 0, p, hp => ⟨p, rfl, hp⟩
  | n + 1, p, hp => by
    obtain ⟨r, hr, hr1⟩ := sq_step hp
    obtain ⟨z, hz, hz1⟩ := sqRow_some n r hr1
    refine ⟨z, ?_, hz1⟩
    unfold sqRow
    rw [hr]; exact hz
theorem expWide_some {y : Nat} (hy : absD y ≤ W2 8) (hs : sgnD y = true) : ∃ r, expWide y = some r ∧ r ≤ 4607182418800017408 := by
  have w8 : W2 8 = 4643211215818981376 := by decide
  obtain ⟨t, ht, ht1, ht2⟩ := quo_one (x := y) (y := 4643211215818981376) (by rw [w8] at hy; omega) (by decide) (by decide) (VD_mono (by rw [show absD 4643211215818981376 = 4643211215818981376 by decide, ← w8]; exact hy) (by decide))
  rw [hs, show sgnD 4643211215818981376 = false by decide] at ht2
  obtain ⟨p, hp, hp1⟩ := expRow_some ht1 ht2 expKs 4607182418800017408 (by decide) (Nat.le_refl _)
  obtain ⟨r, hr, hr1⟩ := sqRow_some 8 p hp1
  refine ⟨r, ?_, hr1⟩
  unfold expWide
  rw [ht]; simp only [Option.bind_some]
  rw [hp]; exact hr

def logRow (u : Nat) : List Nat → Nat → Option Nat
  | [], q => some q
  | k :: ks, q => (floatBits .quo .f64 4607182418800017408 k).bind fun i => (floatBits .mul .f64 u q).bind fun a => (floatBits .add .f64 i a).bind fun r => logRow u ks r
theorem logRow_some {u : Nat} (hu : u ≤ 4607182418800017408) : ∀ (ks : List Nat) (q n : Nat), (∀ k ∈ ks, ∃ i, floatBits .quo .f64 4607182418800017408 k = some i ∧ i ≤ 4607182418800017408) → n + ks.length ≤ 100 → q ≤ W2 n → ∃ r, logRow u ks q = some r ∧ r ≤ W2 (n + ks.length)
  | [], q, n, _, _, hq => ⟨q, rfl, hq⟩
  | k :: ks, q, n, hk, hn, hq => by
    rw [List.length_cons] at hn ⊢
    obtain ⟨i, hi, hi1⟩ := hk k (List.mem_cons_self ..)
    obtain ⟨a, r, ha, hr, hr1⟩ := log_step (n := n) (by omega) hu hi1 hq
    obtain ⟨z, hz, hz1⟩ := logRow_some hu ks r (n + 1) (fun k h => hk k (List.mem_cons_of_mem _ h)) (by omega) hr1
    refine ⟨z, ?_, by rw [show n + (ks.length + 1) = n + 1 + ks.length by omega]; exact hz1⟩
    unfold logRow
    rw [hi]; simp only [Option.bind_some]
    rw [ha]; simp only [Option.bind_some]
    rw [hr]; exact hz
theorem quo_k {k : Nat} (h1 : 4607182418800017408 ≤ k) (h2 : k < 9218868437227405312) : ∃ i, floatBits .quo .f64 4607182418800017408 k = some i ∧ i ≤ 4607182418800017408 := by
  obtain ⟨U, hU⟩ : ∃ U, U = 1074 := ⟨_, rfl⟩
  obtain ⟨k1, k2⟩ := abs_of (r := k) (by omega)
  have vk := VD_mono h1 (by omega)
  have hm0 : manD k ≠ 0 := by
    intro h0
    have h3 : VD k = 0 := by unfold VD; rw [h0, Nat.zero_mul]
    have h4 := Nat.two_pow_pos U
    have h5 := VD_one hU
    omega
  obtain ⟨i, hi, hi1, hi2⟩ := quo_one (x := 4607182418800017408) (y := k) (by decide) (by rw [k1]; exact h2) (by rw [k1]; exact hm0) (by rw [k1]; exact vk)
  rw [k2, show sgnD 4607182418800017408 = false by decide] at hi2
  exact ⟨i, hi, by rw [← abs_pos (bits_lt hi) hi2]; exact hi1⟩

end Go.Proofs.Ytopeidmafalklaa

namespace Go.Proofs.Ytopeidmafalklaa
open Ieee Go.RowKit

def halved (y : Nat) : Nat × Nat := if 4609434218613702656 ≤ y then (y - 4503599627370496, 4607182418800017408) else (y, 0)
def logTail (y e : Nat) : Option Nat :=
  (floatBits .sub .f64 y 4607182418800017408).bind fun a => (floatBits .add .f64 y 4607182418800017408).bind fun b => (floatBits .quo .f64 a b).bind fun s => (floatBits .mul .f64 s s).bind fun u =>
  (logRow u logKs 0).bind fun q => (floatBits .mul .f64 s q).bind fun a => (floatBits .mul .f64 4611686018427387904 a).bind fun b => (floatBits .mul .f64 e 4604418534313441775).bind fun c => floatBits .add .f64 b c
theorem logTail_some {y e : Nat} (hy : y ≤ W2 1) (he : e ≤ 4607182418800017408) : ∃ d r, logTail y e = some d ∧ floatToFloatBits .f64 d .f32 = some r ∧ absF r ≤ 1191182336 := by
  obtain ⟨a, b, s, u, ha, hb, hs, hs1, hu, hu1⟩ := log_quo hy
  have hks : ∀ k ∈ logKs, 4607182418800017408 ≤ k ∧ k < 9218868437227405312 := by decide
  obtain ⟨q, hq, hq1⟩ := logRow_some hu1 logKs 0 0 (fun k hk => quo_k (hks k hk).1 (hks k hk).2) (by decide) (Nat.zero_le _)
  have hlen : 0 + logKs.length = 13 := by decide
  rw [hlen] at hq1
  obtain ⟨m, n, c, d, r, hm, hn, hc, hd, _, hr, hr1⟩ := log_end hs1 hq1 he
  refine ⟨d, r, ?_, hr, hr1⟩
  unfold logTail
  rw [ha]; simp only [Option.bind_some]
  rw [hb]; simp only [Option.bind_some]
  rw [hs]; simp only [Option.bind_some]
  rw [hu]; simp only [Option.bind_some]
  rw [hq]; simp only [Option.bind_some]
  rw [hm]; simp only [Option.bind_some]
  rw [hn]; simp only [Option.bind_some]
  rw [hc]; simp only [Option.bind_some]
  exact hd
/-- the normed number, and that it wants no more steps -/
theorem halved_is {y : Nat} (h1 : 4607182418800017408 ≤ y) (h2 : y ≤ 4611686018427387904) : (halved y).1 ≤ W2 1 ∧ (halved y).2 ≤ 4607182418800017408 ∧ 4604930618986332160 ≤ (halved y).1 ∧ (halved y).1 < 4609434218613702656 := by
  have w : W2 1 = 4611686018427387904 := by decide
  unfold halved
  split
  · refine ⟨?_, ?_, ?_, ?_⟩ <;> simp only <;> omega
  · refine ⟨?_, ?_, ?_, ?_⟩ <;> simp only <;> omega
def logNum (z : Nat) : Option Nat := (floatToFloatBits .f32 z .f64).bind fun y => (logTail (halved y).1 (halved y).2).bind fun d => floatToFloatBits .f64 d .f32
theorem logNum_some {z : Nat} (h1 : 1065353216 ≤ z) (h2 : z ≤ 1073741824) : ∃ r, logNum z = some r ∧ absF r ≤ 1191182336 := by
  obtain ⟨y, hy, hy1, hy2⟩ := widen_12 h1 h2
  obtain ⟨g1, g2, _, _⟩ := halved_is hy1 hy2
  obtain ⟨d, r, hd, hr, hr1⟩ := logTail_some g1 g2
  refine ⟨r, ?_, hr1⟩
  unfold logNum
  rw [hy]; simp only [Option.bind_some]
  rw [hd]; exact hr
theorem expRow_zero : ∀ ks : List Nat, (∀ k ∈ ks, floatBits .quo .f64 0 k = some 0) → expRow 0 ks 4607182418800017408 = some 4607182418800017408
  | [], _ => rfl
  | k :: ks, h => by
    unfold expRow
    rw [show floatBits .mul .f64 0 4607182418800017408 = some 0 by decide]; simp only [Option.bind_some]
    rw [h k (List.mem_cons_self ..)]; simp only [Option.bind_some]
    rw [show floatBits .add .f64 4607182418800017408 0 = some 4607182418800017408 by decide +kernel]
    exact expRow_zero ks (fun k hk => h k (List.mem_cons_of_mem _ hk))
theorem sqRow_one : ∀ n, sqRow n 4607182418800017408 = some 4607182418800017408
  | 0 => rfl
  | n + 1 => by
    unfold sqRow
    rw [show floatBits .mul .f64 4607182418800017408 4607182418800017408 = some 4607182418800017408 by decide]
    exact sqRow_one n
theorem expWide_zero : expWide 0 = some 4607182418800017408 := by
  unfold expWide
  rw [show floatBits .quo .f64 0 4643211215818981376 = some 0 by decide]; simp only [Option.bind_some]
  rw [expRow_zero expKs (by decide)]; simp only [Option.bind_some]
  exact sqRow_one 8
def expNum (d : Nat) : Option Nat := if sgnF d = true ∧ 1128792064 < absF d then some 0 else (floatToFloatBits .f32 d .f64).bind fun y => (expWide y).bind fun p => floatToFloatBits .f64 p .f32
theorem expNum_some {d : Nat} (h : d = 0 ∨ sgnF d = true) : ∃ r, expNum d = some r ∧ r ≤ 1065353216 := by
  unfold expNum
  split
  · exact ⟨0, rfl, Nat.zero_le _⟩
  rename_i hn
  rcases h with h | h
  · subst h
    refine ⟨1065353216, ?_, Nat.le_refl _⟩
    rw [show floatToFloatBits .f32 0 .f64 = some 0 by decide]; simp only [Option.bind_some]
    rw [expWide_zero]; simp only [Option.bind_some]
    decide
  · obtain ⟨U, hU⟩ : ∃ U, U = 1074 := ⟨_, rfl⟩
    obtain ⟨V, hV⟩ : ∃ V, V = 925 := ⟨_, rfl⟩
    have hd : absF d ≤ 1128792064 := by
      by_cases hh : absF d ≤ 1128792064
      · exact hh
      · exact absurd ⟨h, by omega⟩ hn
    obtain ⟨y, hy, hs, hf, hle, _⟩ := widen_is (x := d) (by omega) hV
    have hy1 : absD y ≤ W2 8 := hle (W2 8) (by
      have v8 := VF_W2 8 hV hU
      rw [VD_W2 hU, ← v8]
      exact Nat.mul_le_mul_right _ (VF_mono (by omega) (by decide)))
    obtain ⟨p, hp, hp1⟩ := expWide_some hy1 (by rw [hs]; exact h)
    obtain ⟨r, hr, hr1⟩ := exp_narrow hp1
    refine ⟨r, ?_, hr1⟩
    rw [hy]; simp only [Option.bind_some]
    rw [hp]; exact hr
/-- what the join adds to the greater number -/
def gapNum (d : Nat) : Option Nat := (expNum d).bind fun e => (floatBits .add .f32 1065353216 e).bind fun z => logNum z
theorem gapNum_some {d : Nat} (h : d = 0 ∨ sgnF d = true) : ∃ r, gapNum d = some r ∧ absF r ≤ 1191182336 := by
  obtain ⟨e, he, he1⟩ := expNum_some h
  obtain ⟨z, hz, hz1, hz2⟩ := add_one_12 he1
  obtain ⟨r, hr, hr1⟩ := logNum_some hz1 hz2
  refine ⟨r, ?_, hr1⟩
  unfold gapNum
  rw [he]; simp only [Option.bind_some]
  rw [hz]; exact hr

end Go.Proofs.Ytopeidmafalklaa

namespace Go.Proofs.Ytopeidmafalklaa
open Ieee Go.RowKit

/-- the number's signed value, in units of 2 to the power of -149 -/
def valF (x : Nat) : Int := if sgnF x then -(VF (absF x) : Int) else VF (absF x)
def oppF (y : Nat) : Nat := if sgnF y then absF y else absF y + 2147483648
theorem oppF_parts (y : Nat) : absF (oppF y) = absF y ∧ sgnF (oppF y) = !sgnF y := by
  have h : absF y < 2147483648 := Nat.mod_lt _ (by decide)
  unfold oppF
  obtain ⟨a, ha⟩ : ∃ a, absF y = a := ⟨_, rfl⟩
  rw [ha] at h ⊢
  cases hs : sgnF y
  · refine ⟨?_, ?_⟩
    · unfold absF; simp; omega
    · unfold sgnF; simp; omega
  · refine ⟨?_, ?_⟩
    · unfold absF; simp; omega
    · unfold sgnF; simp; omega
theorem sub_oppF {x y : Nat} (hy : absF y < 2139095040) : floatBits .sub .f32 x y = floatBits .add .f32 x (oppF y) := by
  obtain ⟨o1, o2⟩ := oppF_parts y
  have hr := readF hy
  have ho := readF (x := oppF y) (by rw [o1]; exact hy)
  rw [o1, o2] at ho
  show (((single.read x).sum (single.read y).opposite).map single.write) = (((single.read x).sum (single.read (oppF y))).map single.write)
  rw [hr, ho]
  rfl
theorem gap_fin {lo hi : Nat} (h1 : absF lo < 2139095040) (h2 : absF hi < 2139095040) (h : valF lo ≤ valF hi) : ∃ d, floatBits .sub .f32 lo hi = some d ∧ (d = 0 ∨ sgnF d = true) := by
  obtain ⟨o1, o2⟩ := oppF_parts hi
  obtain ⟨neg, mag, b, e1, e2, e3, e4, e5⟩ := sum_partsF (x := lo) (y := oppF hi) h1 (by rw [o1]; exact h2)
  have htot : totF lo (oppF hi) = valF lo - valF hi := by
    unfold totF valF
    rw [o1, o2]
    cases sgnF hi <;> simp <;> omega
  refine ⟨_, by rw [sub_oppF h2]; exact e1, ?_⟩
  obtain ⟨w1, w2, w3⟩ := nearest_wordF neg mag (-149 + (b : Int))
  cases hn : neg with
  | true => right; rw [hn] at w2; rw [w2]; exact sgn_wordF w3
  | false =>
    left
    have ht0 : totF lo (oppF hi) = 0 := by
      rcases Int.lt_trichotomy (totF lo (oppF hi)) 0 with q | q | q
      · have := e4 q; rw [hn] at this; exact absurd this (by decide)
      · exact q
      · omega
    rw [ht0] at e2
    have hm : mag * 2 ^ b = 0 := by
      have h0 : ((0 : Int).natAbs : Int) = 0 := rfl
      omega
    have hm0 : mag = 0 := by
      rcases Nat.mul_eq_zero.1 hm with q | q
      · exact q
      · have := Nat.two_pow_pos b; omega
    rw [hm0]
    unfold Format.nearest
    rfl
/-- the join of two finite numbers: the greater and what is added to it -/
theorem join_gap {lo hi : Nat} (h1 : absF lo < 2139095040) (h2 : absF hi < 2139095040) (h : valF lo ≤ valF hi) : ∃ d g, floatBits .sub .f32 lo hi = some d ∧ gapNum d = some g ∧ absF g ≤ 1191182336 := by
  obtain ⟨d, hd, hd1⟩ := gap_fin h1 h2 h
  obtain ⟨g, hg, hg1⟩ := gapNum_some hd1
  exact ⟨d, g, hd, hg, hg1⟩

end Go.Proofs.Ytopeidmafalklaa

namespace Go.Proofs.Ytopeidmafalklaa
open Ieee Go.RowKit

theorem cmp_mul (a b c : Int) (hc : 0 < c) : compare a b = compare (a * c) (b * c) := by
  show compareOfLessAndEq a b = compareOfLessAndEq (a * c) (b * c)
  unfold compareOfLessAndEq
  rcases Int.lt_trichotomy a b with h | h | h
  · rw [if_pos h, if_pos (Int.mul_lt_mul_of_pos_right h hc)]
  · subst h
    rw [if_neg (Int.lt_irrefl _), if_neg (Int.lt_irrefl _), if_pos rfl, if_pos rfl]
  · have h2 := Int.mul_lt_mul_of_pos_right h hc
    rw [if_neg (by omega), if_neg (by omega), if_neg (by omega), if_neg (by omega)]
theorem order_valF {x y : Nat} (hx : absF x < 2139095040) (hy : absF y < 2139095040) : single.order x y = some (compare (valF x) (valF y)) := by
  obtain ⟨px, hpx⟩ : ∃ p, plcF (absF x) = p := ⟨_, rfl⟩
  obtain ⟨py, hpy⟩ : ∃ p, plcF (absF y) = p := ⟨_, rfl⟩
  have rx := readF hx
  have ry := readF hy
  rw [hpx] at rx
  rw [hpy] at ry
  obtain ⟨b, hb⟩ : ∃ b, min px py = b := ⟨_, rfl⟩
  have hbase : min (-149 + (px : Int)) (-149 + (py : Int)) = -149 + (b : Int) := by omega
  have hpos : (0 : Int) < ((2 ^ b : Nat) : Int) := by have := Nat.two_pow_pos b; omega
  show (single.read x).order (single.read y) = _
  rw [rx, ry]
  unfold Datum.order
  simp only [hbase]
  rw [show (-149 + (px : Int) - (-149 + (b : Int))).toNat = px - b by omega, show (-149 + (py : Int) - (-149 + (b : Int))).toNat = py - b by omega]
  rw [cmp_mul _ _ _ hpos, signed_val, signed_val, show px - b + b = px by omega, show py - b + b = py by omega]
  unfold valF VF
  rw [hpx, hpy]
/-- the number's signed value, in units of 2 to the power of -1074 -/
def valD (x : Nat) : Int := if sgnD x then -(VD (absD x) : Int) else VD (absD x)
theorem order_valD {x y : Nat} (hx : absD x < 9218868437227405312) (hy : absD y < 9218868437227405312) : double.order x y = some (compare (valD x) (valD y)) := by
  obtain ⟨px, hpx⟩ : ∃ p, plcD (absD x) = p := ⟨_, rfl⟩
  obtain ⟨py, hpy⟩ : ∃ p, plcD (absD y) = p := ⟨_, rfl⟩
  have rx := readD hx
  have ry := readD hy
  rw [hpx] at rx
  rw [hpy] at ry
  obtain ⟨b, hb⟩ : ∃ b, min px py = b := ⟨_, rfl⟩
  have hbase : min (-1074 + (px : Int)) (-1074 + (py : Int)) = -1074 + (b : Int) := by omega
  have hpos : (0 : Int) < ((2 ^ b : Nat) : Int) := by have := Nat.two_pow_pos b; omega
  show (double.read x).order (double.read y) = _
  rw [rx, ry]
  unfold Datum.order
  simp only [hbase]
  rw [show (-1074 + (px : Int) - (-1074 + (b : Int))).toNat = px - b by omega, show (-1074 + (py : Int) - (-1074 + (b : Int))).toNat = py - b by omega]
  rw [cmp_mul _ _ _ hpos, signed_val, signed_val, show px - b + b = px by omega, show py - b + b = py by omega]
  unfold valD VD
  rw [hpx, hpy]

/-- nonnegative words: the order of the words -/
theorem order_wordsD {x y : Nat} (hx : x < 9218868437227405312) (hy : y < 9218868437227405312) : double.order x y = some (compare (x : Int) (y : Int)) := by
  obtain ⟨x1, x2⟩ := abs_of (r := x) (by omega)
  obtain ⟨y1, y2⟩ := abs_of (r := y) (by omega)
  rw [order_valD (by omega) (by omega)]
  unfold valD
  rw [x1, x2, y1, y2]
  congr 1
  show compareOfLessAndEq _ _ = compareOfLessAndEq _ _
  have hlt : ∀ {a b : Nat}, a < b → b < 9218868437227405312 → VD a < VD b := by
    intro a b h1 h2
    have h3 := VD_mono (Nat.le_of_lt h1) (by omega)
    rcases Nat.lt_or_eq_of_le h3 with h4 | h4
    · exact h4
    · exfalso
      have h5 := nearest_ge (mag := manD a) (place := -1074 + (plcD a : Int)) (c := b) (S := 0) (E := plcD a) (by omega) (by omega) (by rw [Nat.pow_zero, Nat.mul_one, ← h4]; exact Nat.le_refl _)
      have h6 := nearest_le (mag := manD a) (place := -1074 + (plcD a : Int)) (c := a) (S := 0) (E := plcD a) (by omega) (by rw [Nat.pow_zero, Nat.mul_one]; exact Nat.le_refl _)
      omega
  unfold compareOfLessAndEq
  rcases Nat.lt_trichotomy x y with h | h | h
  · have := hlt h hy
    rw [if_pos (by simp; omega), if_pos (by omega)]
  · subst h
    simp
  · have := hlt h hx
    rw [if_neg (by simp; omega), if_neg (by simp; omega), if_neg (by omega), if_neg (by omega)]

end Go.Proofs.Ytopeidmafalklaa

namespace Go.Proofs.Ytopeidmafalklaa
open Ieee Go.RowKit

theorem cmp_cases (a b : Int) : compare a b = if a < b then .lt else if a = b then .eq else .gt := rfl
theorem cmp_ltB (a b : Int) : (some (compare a b) == some Ordering.lt) = decide (a < b) := by
  rw [cmp_cases]
  by_cases h : a < b
  · rw [if_pos h, decide_eq_true h]; rfl
  · rw [if_neg h, decide_eq_false h]
    split <;> rfl
theorem cmp_gtB (a b : Int) : (some (compare a b) == some Ordering.gt) = decide (b < a) := by
  rw [cmp_cases]
  by_cases h : a < b
  · rw [if_pos h, decide_eq_false (by omega)]; rfl
  · rw [if_neg h]
    by_cases h2 : a = b
    · rw [if_pos h2, decide_eq_false (by omega)]; rfl
    · rw [if_neg h2, decide_eq_true (by omega)]; rfl
theorem cmp_geB (a b : Int) : (some (compare a b) == some Ordering.gt || some (compare a b) == some Ordering.eq) = decide (b ≤ a) := by
  rw [cmp_cases]
  by_cases h : a < b
  · rw [if_pos h, decide_eq_false (by omega)]; rfl
  · rw [if_neg h, decide_eq_true (by omega)]
    split <;> rfl
/-- the halving loop's test -/
theorem half_test {y : Nat} (h : y < 9218868437227405312) : (double.order y 4609434218613702656 == some Ordering.gt || double.order y 4609434218613702656 == some Ordering.eq) = decide (4609434218613702656 ≤ y) := by
  rw [order_wordsD h (by decide), cmp_geB]
  by_cases h2 : 4609434218613702656 ≤ y
  · rw [decide_eq_true h2, decide_eq_true (by omega)]
  · rw [decide_eq_false h2, decide_eq_false (by omega)]
/-- the doubling loop's test -/
theorem low_test {y : Nat} (h1 : 4604930618986332160 ≤ y) (h : y < 9218868437227405312) : (double.order y 4604930618986332160 == some Ordering.lt) = false := by
  rw [order_wordsD h (by decide), cmp_ltB, decide_eq_false (by omega)]
/-- the halving step -/
theorem half_step {y : Nat} (h1 : 4609434218613702656 ≤ y) (h : y < 9218868437227405312) : floatBits .quo .f64 y 4611686018427387904 = some (y - 4503599627370496) := half_norm ⟨by omega, h⟩ (by omega)
/-- the gap's tests, single precision: above 200 never, below -200 as expNum says -/
theorem gap_high {d : Nat} (hf : absF d < 2139095040) (h : d = 0 ∨ sgnF d = true) : (single.order d 1128792064 == some Ordering.gt) = false := by
  rw [order_valF hf (by decide), cmp_gtB]
  apply decide_eq_false
  have e : valF 1128792064 = (VF 1128792064 : Int) := by
    unfold valF
    rw [show sgnF 1128792064 = false by decide, show absF 1128792064 = 1128792064 by decide]
    rfl
  rw [e]
  rcases h with h | h
  · subst h
    rw [show valF 0 = 0 by decide]
    omega
  · unfold valF
    rw [h]
    simp only [if_true]
    omega
theorem VF_lt {a b : Nat} (h : a < b) (hb : b < 2139095040) : VF a < VF b := by
  have h3 := VF_mono (Nat.le_of_lt h) (by omega)
  rcases Nat.lt_or_eq_of_le h3 with h4 | h4
  · exact h4
  · exfalso
    have h5 := nearest_geF (mag := manF a) (place := -149 + (plcF a : Int)) (c := b) (S := 0) (E := plcF a) (by omega) (by omega) (by rw [Nat.pow_zero, Nat.mul_one, ← h4]; exact Nat.le_refl _)
    have h6 := nearest_leF (mag := manF a) (place := -149 + (plcF a : Int)) (c := a) (S := 0) (E := plcF a) (by omega) (by rw [Nat.pow_zero, Nat.mul_one]; exact Nat.le_refl _)
    omega
theorem gap_low {d : Nat} (hf : absF d < 2139095040) (h : d = 0 ∨ sgnF d = true) : (single.order d 3276275712 == some Ordering.lt) = decide (sgnF d = true ∧ 1128792064 < absF d) := by
  rw [order_valF hf (by decide), cmp_ltB]
  have e : valF 3276275712 = -(VF 1128792064 : Int) := by
    unfold valF
    rw [show sgnF 3276275712 = true by decide, show absF 3276275712 = 1128792064 by decide]
    rfl
  rw [e]
  rcases h with h | h
  · subst h
    rw [show valF 0 = 0 by decide, decide_eq_false (by omega), decide_eq_false (by rw [show sgnF 0 = false by decide]; simp)]
  · have hv : valF d = -(VF (absF d) : Int) := by unfold valF; rw [h]; rfl
    rw [hv, h]
    by_cases hh : 1128792064 < absF d
    · have := VF_lt hh hf
      rw [decide_eq_true (by omega), decide_eq_true ⟨rfl, hh⟩]
    · have := VF_mono (Nat.le_of_not_lt hh) (by decide)
      rw [decide_eq_false (by omega), decide_eq_false (fun q => hh q.2)]

end Go.Proofs.Ytopeidmafalklaa

namespace Go.Proofs.Ytopeidmafalklaa
open Ieee Go.RowKit

theorem read_pinf : single.read 2139095040 = .infinity false := by decide
theorem read_minf : single.read 4286578688 = .infinity true := by decide
theorem gap_inf1 {hi : Nat} (h : absF hi < 2139095040) : floatBits .sub .f32 4286578688 hi = some 4286578688 := by
  show (((single.read 4286578688).sum (single.read hi).opposite).map single.write) = _
  rw [read_minf, readF h]
  rfl
theorem gap_inf2 {lo : Nat} (h : absF lo < 2139095040) : floatBits .sub .f32 lo 2139095040 = some 4286578688 := by
  show (((single.read lo).sum (single.read 2139095040).opposite).map single.write) = _
  rw [read_pinf, readF h]
  rfl
theorem gap_inf3 : floatBits .sub .f32 4286578688 2139095040 = some 4286578688 := by decide
/-- the gap's added number at the gap of minus infinity -/
theorem gapNum_inf : ∃ g, gapNum 4286578688 = some g ∧ absF g ≤ 1191182336 := gapNum_some (Or.inr (by decide))
/-- what is not a NaN -/
theorem not_nan {x : Nat} (hx : x < 4294967296) (h : absF x ≤ 2139095040) : absF x < 2139095040 ∨ x = 2139095040 ∨ x = 4286578688 := by
  unfold absF at *
  omega
theorem sum_some {hi g : Nat} (hx : hi < 4294967296) (h : absF hi ≤ 2139095040) (hg : absF g < 2139095040) : ∃ r, floatBits .add .f32 hi g = some r := by
  rcases not_nan hx h with q | q | q
  · obtain ⟨neg, mag, b, e, _⟩ := sum_partsF q hg
    exact ⟨_, e⟩
  · subst q
    refine ⟨single.write (.infinity false), ?_⟩
    show (((single.read 2139095040).sum (single.read g)).map single.write) = _
    rw [read_pinf, readF hg]
    rfl
  · subst q
    refine ⟨single.write (.infinity true), ?_⟩
    show (((single.read 4286578688).sum (single.read g)).map single.write) = _
    rw [read_minf, readF hg]
    rfl
/-- the whole join, computed: the greater number and the gap's added number -/
def joinNum (lo hi : Nat) : Option Nat := (floatBits .sub .f32 lo hi).bind fun d => (gapNum d).bind fun g => floatBits .add .f32 hi g
theorem joinNum_fin {lo hi : Nat} (hh : hi < 4294967296) (h1 : absF lo < 2139095040) (h2 : absF hi < 2139095040) (h : valF lo ≤ valF hi) : ∃ r, joinNum lo hi = some r := by
  obtain ⟨d, g, hd, hg, hg1⟩ := join_gap h1 h2 h
  obtain ⟨r, hr⟩ := sum_some hh (Nat.le_of_lt h2) (g := g) (by omega)
  refine ⟨r, ?_⟩
  unfold joinNum
  rw [hd]; simp only [Option.bind_some]
  rw [hg]; exact hr
theorem joinNum_inf {lo hi : Nat} (hh : hi < 4294967296) (h : absF hi ≤ 2139095040) (hd : floatBits .sub .f32 lo hi = some 4286578688) : ∃ r, joinNum lo hi = some r := by
  obtain ⟨g, hg, hg1⟩ := gapNum_inf
  obtain ⟨r, hr⟩ := sum_some hh h (g := g) (by omega)
  refine ⟨r, ?_⟩
  unfold joinNum
  rw [hd]; simp only [Option.bind_some]
  rw [hg]; exact hr

end Go.Proofs.Ytopeidmafalklaa

namespace Go.Proofs.Ytopeidmafalklaa
open Ieee Go.RowKit

theorem v200 {U : Nat} (hU : U = 925) : VF 1128792064 * 2 ^ U = VD 4641240890982006784 := by
  obtain ⟨V, hV⟩ : ∃ V, V = 1029 := ⟨_, rfl⟩
  have h2 : plcD 4641240890982006784 = V := by rw [hV]; decide
  unfold VF VD
  rw [h2, show manF 1128792064 = 13107200 by decide, show plcF 1128792064 = 133 by decide, show manD 4641240890982006784 = 13107200 * 2 ^ 29 by decide, Nat.mul_assoc, Nat.mul_assoc, ← Nat.pow_add, ← Nat.pow_add]
  congr 2
  omega
theorem v201 {U : Nat} (hU : U = 925) : VD 4641240890982006785 ≤ VF 1128792065 * 2 ^ U := by
  obtain ⟨V, hV⟩ : ∃ V, V = 1029 := ⟨_, rfl⟩
  have h2 : plcD 4641240890982006785 = V := by rw [hV]; decide
  unfold VF VD
  rw [h2, show manF 1128792065 = 13107201 by decide, show plcF 1128792065 = 133 by decide, show manD 4641240890982006785 = 7036874417766401 by decide, Nat.mul_assoc, ← Nat.pow_add, show 133 + U = 29 + V by omega, Nat.pow_add, ← Nat.mul_assoc]
  exact Nat.mul_le_mul_right _ (by decide)
theorem VD_lt {a b : Nat} (h : a < b) (hb : b < 9218868437227405312) : VD a < VD b := by
  have h3 := VD_mono (Nat.le_of_lt h) (by omega)
  rcases Nat.lt_or_eq_of_le h3 with h4 | h4
  · exact h4
  · exfalso
    have h5 := nearest_ge (mag := manD a) (place := -1074 + (plcD a : Int)) (c := b) (S := 0) (E := plcD a) (by omega) (by omega) (by rw [Nat.pow_zero, Nat.mul_one, ← h4]; exact Nat.le_refl _)
    have h6 := nearest_le (mag := manD a) (place := -1074 + (plcD a : Int)) (c := a) (S := 0) (E := plcD a) (by omega) (by rw [Nat.pow_zero, Nat.mul_one]; exact Nat.le_refl _)
    omega
/-- the widened gap and its two tests -/
theorem wide_tests {d : Nat} (hf : absF d < 2139095040) (h : sgnF d = true) : ∃ y, floatToFloatBits .f32 d .f64 = some y ∧ sgnD y = true ∧ absD y < 9218868437227405312 ∧ (double.order y 4641240890982006784 == some Ordering.gt) = false ∧ (double.order y 13864612927836782592 == some Ordering.lt) = decide (sgnF d = true ∧ 1128792064 < absF d) := by
  obtain ⟨U, hU⟩ : ∃ U, U = 925 := ⟨_, rfl⟩
  obtain ⟨y, hy, hs, hfin, hle, hge⟩ := widen_is (x := d) hf hU
  rw [h] at hs
  have hv : valD y = -(VD (absD y) : Int) := by unfold valD; rw [hs]; rfl
  refine ⟨y, hy, hs, hfin, ?_, ?_⟩
  · rw [order_valD hfin (by decide), cmp_gtB, hv]
    apply decide_eq_false
    have e : valD 4641240890982006784 = (VD 4641240890982006784 : Int) := by
      unfold valD
      rw [show sgnD 4641240890982006784 = false by decide, show absD 4641240890982006784 = 4641240890982006784 by decide]
      rfl
    rw [e]
    omega
  · rw [order_valD hfin (by decide), cmp_ltB, hv]
    have e : valD 13864612927836782592 = -(VD 4641240890982006784 : Int) := by
      unfold valD
      rw [show sgnD 13864612927836782592 = true by decide, show absD 13864612927836782592 = 4641240890982006784 by decide]
      rfl
    rw [e, h]
    by_cases hh : 1128792064 < absF d
    · have h1 := hge 4641240890982006785 (by decide) (Nat.le_trans (v201 hU) (Nat.mul_le_mul_right _ (VF_mono (Nat.succ_le_of_lt hh) (by omega))))
      have h2 := VD_lt (a := 4641240890982006784) (b := absD y) (by omega) hfin
      rw [decide_eq_true (by omega), decide_eq_true ⟨rfl, hh⟩]
    · have h1 := hle 4641240890982006784 (by
        rw [← v200 hU]
        exact Nat.mul_le_mul_right _ (VF_mono (Nat.le_of_not_lt hh) (by decide)))
      have h2 := VD_mono h1 (by decide)
      rw [decide_eq_false (by omega), decide_eq_false (fun q => hh q.2)]

end Go.Proofs.Ytopeidmafalklaa

namespace Go.Proofs.Ytopeidmafalklaa
open Ieee Go.RowKit

theorem k_down1 : ∀ n : Fin 12, floatBits .sub .f64 (floatOfInt .f64 ((n.val : Int) + 1)) 4607182418800017408 = some (floatOfInt .f64 (n.val : Int)) := by decide +kernel
theorem k_down2 : ∀ n : Fin 13, floatBits .sub .f64 (floatOfInt .f64 (2 * (n.val : Int) + 1)) 4611686018427387904 = some (floatOfInt .f64 (2 * (n.val : Int) - 1)) := by decide +kernel
theorem k_test1 : ∀ n : Fin 13, (double.order (floatOfInt .f64 (n.val : Int)) 4607182418800017408 == some Ordering.gt || double.order (floatOfInt .f64 (n.val : Int)) 4607182418800017408 == some Ordering.eq) = decide (1 ≤ n.val) := by decide +kernel
theorem k_test2 : ∀ n : Fin 14, (double.order (floatOfInt .f64 (2 * (n.val : Int) - 1)) 4607182418800017408 == some Ordering.gt || double.order (floatOfInt .f64 (2 * (n.val : Int) - 1)) 4607182418800017408 == some Ordering.eq) = decide (1 ≤ n.val) := by decide +kernel
theorem expKs_is : expKs = (List.range 12).map fun i : Nat => floatOfInt .f64 (12 - (i : Int)) := by decide +kernel
theorem logKs_is : logKs = (List.range 13).map fun i : Nat => floatOfInt .f64 (25 - 2 * (i : Int)) := by decide +kernel
theorem one_is : floatOfInt .f64 1 = 4607182418800017408 ∧ floatOfInt .f64 0 = 0 := by decide +kernel
/-- the tests at the gaps of minus infinity and nought -/
theorem tests_inf : floatToFloatBits .f32 4286578688 .f64 = some 18442240474082181120 ∧ (double.order 18442240474082181120 4641240890982006784 == some Ordering.gt) = false ∧ (double.order 18442240474082181120 13864612927836782592 == some Ordering.lt) = true ∧ (single.order 4286578688 1128792064 == some Ordering.gt) = false ∧ (single.order 4286578688 3276275712 == some Ordering.lt) = true ∧ expNum 4286578688 = some 0 := by decide +kernel
theorem tests_zero : floatToFloatBits .f32 0 .f64 = some 0 ∧ (double.order 0 4641240890982006784 == some Ordering.gt) = false ∧ (double.order 0 13864612927836782592 == some Ordering.lt) = false := by decide +kernel

end Go.Proofs.Ytopeidmafalklaa
