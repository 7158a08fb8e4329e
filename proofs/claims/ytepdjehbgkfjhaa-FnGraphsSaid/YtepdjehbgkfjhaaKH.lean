/-
  Plain: float32 words that are no zero and lie below a bound: their signs, sums, differences, the least of two.
  Conditions: as each theorem says.
-/
import Derived.Test.YtepdjehbgkfjhaaKY
namespace Go.Proofs.Ytepdjehbgkfjhaa
open Go.RowKit

/-- a word that is no zero, below 2^a, greater than 0 as c says -/
structure Amp (a : Nat) (c : Bool) (x : Nat) : Prop where
  low : Low a x
  pos : 1 ≤ x % 2147483648
  sgn : x / 2147483648 = if c then 0 else 1
theorem Amp.mono {a b : Nat} {c : Bool} {x : Nat} (h : Amp a c x) (hab : a ≤ b) : Amp b c x := ⟨h.low.mono hab, h.pos, h.sgn⟩
theorem Amp.read {a : Nat} {c : Bool} {x : Nat} (ha : a ≤ 128) (h : Amp a c x) : ∃ m i, Ieee.single.read x = .number (!c) m i ∧ m ≠ 0 ∧ -149 ≤ i := by
  have hf := low_fin32 ha h.low
  have hs : (x / 2147483648 % 2 == 1) = !c := by rw [h.sgn]; cases c <;> rfl
  have h1 := h.pos
  unfold Ieee.Format.read
  dsimp only
  rw [sw32, bi32, ir32, hs]
  have el : Ieee.single.leastPlace = -149 := by decide
  rw [el]
  split
  · exact ⟨_, _, rfl, by omega, Int.le_refl _⟩
  · exact ⟨_, _, rfl, by omega, by omega⟩
theorem signed_pos {m k : Nat} (hm : m ≠ 0) : 0 < Ieee.signed false m k := by
  unfold Ieee.signed
  rw [Nat.shiftLeft_eq]
  have : 0 < m * 2 ^ k := Nat.mul_pos (by omega) (Nat.pow_pos (by decide))
  simp only [Bool.false_eq_true, if_false]
  omega
theorem signed_neg {m k : Nat} (hm : m ≠ 0) : Ieee.signed true m k < 0 := by
  unfold Ieee.signed
  rw [Nat.shiftLeft_eq]
  have : 0 < m * 2 ^ k := Nat.mul_pos (by omega) (Nat.pow_pos (by decide))
  simp only [if_true]
  omega
theorem key_zero : keyW 0 = 0 := by decide
theorem Amp.key {a : Nat} {c : Bool} {x : Nat} (ha : a ≤ 128) (h : Amp a c x) : if c then 0 < keyW x else keyW x < 0 := by
  obtain ⟨m, i, e, h1, h2⟩ := h.read ha
  unfold keyW
  rw [e]
  cases c
  · exact signed_neg h1
  · exact signed_pos h1
theorem Amp.order {a : Nat} {c : Bool} {x : Nat} (ha : a ≤ 128) (h : Amp a c x) : FloatKind.f32.format.order x 0 = some (if c then .gt else .lt) := by
  rw [order_key (low_fin32 ha h.low) (by decide), key_zero]
  have := h.key ha
  cases c
  · rw [Int.compare_eq_lt.2 this]; rfl
  · rw [Int.compare_eq_gt.2 this]; rfl
theorem cut_ge (neg : Bool) (n drop : Nat) (h : drop ≤ n.log2) (hn : n ≠ 0) : 1 ≤ Ieee.Toward.even.cut neg n drop := by
  unfold Ieee.Toward.cut
  dsimp only
  rw [Nat.min_eq_left (by omega), Nat.shiftLeft_eq, Nat.one_mul]
  have : 1 ≤ n / 2 ^ drop := by
    rw [Nat.le_div_iff_mul_le (Nat.pow_pos (by decide)), Nat.one_mul]
    exact Nat.le_trans (Nat.pow_le_pow_right (by decide) h) (Nat.log2_self_le hn)
  omega
theorem nearest_pos (neg : Bool) (mag : Nat) (place : Int) (hm : mag ≠ 0) (hp : -149 ≤ place) : 1 ≤ Ieee.single.nearest neg mag place % 2147483648 ∧ Ieee.single.nearest neg mag place / 2147483648 = if neg then 1 else 0 := by
  unfold Ieee.Format.nearest
  rw [if_neg hm]
  dsimp only
  have el : Ieee.single.leastPlace = -149 := by decide
  have ef : (Ieee.single.fractionBits : Int) = 23 := rfl
  rw [el, ef, bi32, ir32]
  obtain ⟨last, hlast⟩ : ∃ last, max (place + (mag.log2 : Int) - 23) (-149) = last := ⟨_, rfl⟩
  rw [hlast]
  have hk : 1 ≤ Ieee.Toward.even.cut neg (mag <<< (place - last).toNat) (last - place).toNat := by
    by_cases hc : last ≤ place
    · have e : (last - place).toNat = 0 := by omega
      rw [e]
      refine cut_ge _ _ _ (Nat.zero_le _) ?_
      rw [Nat.shiftLeft_eq]
      have := Nat.mul_pos (show 0 < mag by omega) (Nat.pow_pos (n := (place - last).toNat) (show 0 < 2 by decide))
      omega
    · have e : (place - last).toNat = 0 := by omega
      rw [e, Nat.shiftLeft_zero]
      refine cut_ge _ _ _ ?_ hm
      omega
  obtain ⟨kept, hkept⟩ : ∃ kept, Ieee.Toward.even.cut neg (mag <<< (place - last).toNat) (last - place).toNat = kept := ⟨_, rfl⟩
  rw [hkept] at hk ⊢
  obtain ⟨q, hq⟩ : ∃ q, (last - -149).toNat * 8388608 + kept = q := ⟨_, rfl⟩
  have hq1 : 1 ≤ q := by omega
  rw [hq]
  have hr : 1 ≤ min q 2139095040 ∧ min q 2139095040 ≤ 2139095040 := by omega
  obtain ⟨r, hr0⟩ : ∃ r, min q 2139095040 = r := ⟨_, rfl⟩
  rw [hr0] at hr ⊢
  unfold Ieee.Format.word
  rw [sw32]
  cases neg
  · simp only [Bool.false_eq_true, if_false]
    omega
  · simp only [if_true]
    omega
theorem sum_sign {s : Bool} {m n : Nat} {i j : Int} (hm : m ≠ 0) (hn : n ≠ 0) (hi : -149 ≤ i) (hj : -149 ≤ j) {r : Nat}
    (h : ((Ieee.Datum.sum (.number s m i) (.number s n j)).map Ieee.single.write) = some r) : 1 ≤ r % 2147483648 ∧ r / 2147483648 = if s then 1 else 0 := by
  have h2 : Ieee.single.nearest (if Ieee.signed s m (i - min i j).toNat + Ieee.signed s n (j - min i j).toNat = 0 then s && s else decide (Ieee.signed s m (i - min i j).toNat + Ieee.signed s n (j - min i j).toNat < 0)) (Ieee.signed s m (i - min i j).toNat + Ieee.signed s n (j - min i j).toNat).natAbs (min i j) = r := Option.some.inj h
  obtain ⟨u, hu⟩ : ∃ u, Ieee.signed s m (i - min i j).toNat = u := ⟨_, rfl⟩
  obtain ⟨v, hv⟩ : ∃ v, Ieee.signed s n (j - min i j).toNat = v := ⟨_, rfl⟩
  rw [hu, hv] at h2
  rw [← h2]
  cases s
  · have h3 : 0 < u := by rw [← hu]; exact signed_pos hm
    have h4 : 0 < v := by rw [← hv]; exact signed_pos hn
    rw [if_neg (by omega), decide_eq_false (by omega)]
    exact nearest_pos _ _ _ (by omega) (by omega)
  · have h3 : u < 0 := by rw [← hu]; exact signed_neg hm
    have h4 : v < 0 := by rw [← hv]; exact signed_neg hn
    rw [if_neg (by omega), decide_eq_true (by omega)]
    exact nearest_pos _ _ _ (by omega) (by omega)
theorem add_amp {a : Nat} {c : Bool} {x y : Nat} (ha : a ≤ 120) (hx : Amp a c x) (hy : Amp a c y) : ∃ r, floatBits .add .f32 x y = some r ∧ Amp (a + 2) c r := by
  obtain ⟨r, h1, h2⟩ := add_low (by omega) (by omega) hx.low hy.low
  rw [Nat.max_self] at h2
  obtain ⟨m, i, e1, m1, i1⟩ := hx.read (by omega)
  obtain ⟨n, j, e2, n1, j1⟩ := hy.read (by omega)
  have h3 : ((Ieee.single.read x).sum (Ieee.single.read y)).map Ieee.single.write = some r := h1
  rw [e1, e2] at h3
  obtain ⟨h4, h5⟩ := sum_sign m1 n1 i1 j1 h3
  exact ⟨r, h1, h2, h4, by rw [h5]; cases c <;> rfl⟩
theorem sub_amp {a : Nat} {c : Bool} {x y : Nat} (ha : a ≤ 120) (hx : Amp a c x) (hy : Amp a (!c) y) : ∃ r, floatBits .sub .f32 x y = some r ∧ Amp (a + 2) c r := by
  obtain ⟨r, h1, h2⟩ := sub_low (by omega) (by omega) hx.low hy.low
  rw [Nat.max_self] at h2
  obtain ⟨m, i, e1, m1, i1⟩ := hx.read (by omega)
  obtain ⟨n, j, e2, n1, j1⟩ := hy.read (by omega)
  have h3 : ((Ieee.single.read x).sum (Ieee.single.read y).opposite).map Ieee.single.write = some r := h1
  rw [e1, e2] at h3
  have h3 : ((Ieee.Datum.number (!c) m i).sum (.number (!c) n j)).map Ieee.single.write = some r := by
    have e : (Ieee.Datum.number (!!c) n j).opposite = .number (!c) n j := by cases c <;> rfl
    rw [e] at h3
    exact h3
  obtain ⟨h4, h5⟩ := sum_sign m1 n1 i1 j1 h3
  exact ⟨r, h1, h2, h4, by rw [h5]; cases c <;> rfl⟩
theorem neg_amp {a : Nat} {c : Bool} {x : Nat} (h : Amp a c x) : Amp a (!c) (Op.negFloat .f32 x) := by
  have e : Op.negFloat .f32 x = x ^^^ 2 ^ 31 := rfl
  have h1 : (x ^^^ 2 ^ 31) % 2 ^ 31 = x % 2 ^ 31 := by rw [Nat.xor_mod_two_pow]; simp
  have h2 : (x ^^^ 2 ^ 31) / 2 ^ 31 = x / 2 ^ 31 ^^^ 1 := by rw [Nat.xor_div_two_pow]
  have h3 : (x ^^^ 2 ^ 31) % 2147483648 = x % 2147483648 := h1
  have h4 : (x ^^^ 2 ^ 31) / 2147483648 = x / 2147483648 ^^^ 1 := h2
  rw [e]
  refine ⟨?_, ?_, ?_⟩
  · unfold Low; rw [h3]; exact h.low
  · rw [h3]; exact h.pos
  · rw [h4, h.sgn]; cases c <;> rfl
/-- the absolute value -/
def absW (x : Nat) : Nat := if FloatKind.f32.format.order x 0 == some .lt then Op.negFloat .f32 x else x
theorem abs_amp {a : Nat} {c : Bool} {x : Nat} (ha : a ≤ 128) (h : Amp a c x) : Amp a true (absW x) := by
  unfold absW
  rw [h.order ha]
  cases c
  · exact neg_amp h
  · exact h
/-- the least of two that are above 0 -/
def minW (x y : Nat) : Nat := match FloatKind.f32.format.order x y with | some .lt => x | _ => y
theorem min_amp {a : Nat} {x y : Nat} (hx : Amp a true x) (hy : Amp a true y) : Amp a true (minW x y) := by
  unfold minW
  split
  · exact hx
  · exact hy
theorem run_min32 {P : Program} {x y : Nat} (w : World) (t : Array TypeId) (ty : TypeId) (hx : x % 2147483648 < 2139095040) (hy : y % 2147483648 < 2139095040) (h0 : x / 2147483648 = 0) : (Builtin.min_ t ty #[.float .f32 x, .float .f32 y]).run P w = .ok (.float .f32 (minW x y)) w := by
  have hn : (FloatKind.f32.decode x).neg = false := by
    obtain ⟨s, m, i, e, _⟩ := read_fin hx
    have hs : (x / 2147483648 % 2 == 1) = false := by rw [h0]; rfl
    show (Ieee.single.read x).neg = false
    unfold Ieee.Format.read
    dsimp only
    rw [sw32, bi32, ir32, hs]
    split
    · rfl
    · rfl
  have ho := order_key hx hy
  unfold minW
  rw [ho]
  cases hc : compare (keyW x) (keyW y) <;> simp [Builtin.min_, Builtin.min2, ho, hc, hn]

end Go.Proofs.Ytepdjehbgkfjhaa
