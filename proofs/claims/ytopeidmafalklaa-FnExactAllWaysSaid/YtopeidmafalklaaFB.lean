/-
  Bounds of single floats: sums and products of numbers that are not too great are numbers, and not much greater.
  Conditions: as each theorem states.
-/
import Derived.Test.YtopeidmafalklaaCA
namespace Go.Proofs.Ytopeidmafalklaa
open Go.RowKit

/-- the word's rung is below that of 2 ^ a -/
def Low (a : Nat) (x : Nat) : Prop := x % 2147483648 < (a + 127) * 8388608

theorem Low.mono {a b x : Nat} (h : Low a x) (hab : a ≤ b) : Low b x := by
  unfold Low at *
  exact Nat.lt_of_lt_of_le h (Nat.mul_le_mul_right _ (by omega))

theorem cutE_le (neg : Bool) (n drop t : Nat) (h : n < 2 ^ (drop + t)) : Ieee.Toward.even.cut neg n drop ≤ 2 ^ t := by
  unfold Ieee.Toward.cut
  dsimp only
  rw [Nat.shiftLeft_eq, Nat.one_mul]
  have hm : ∀ b : Bool, b.toNat ≤ 1 := by intro b; cases b <;> decide
  have hp : 0 < 2 ^ t := Nat.two_pow_pos _
  by_cases hd : drop ≤ n.log2 + 2
  · rw [Nat.min_eq_left hd]
    have h1 : n / 2 ^ drop < 2 ^ t := Nat.div_lt_of_lt_mul (by rw [← Nat.pow_add]; exact h)
    have := hm (decide (2 ^ drop < 2 * (n % 2 ^ drop)) || (2 ^ drop == 2 * (n % 2 ^ drop) && n / 2 ^ drop % 2 == 1))
    omega
  · rw [Nat.min_eq_right (by omega)]
    have h1 : n < 2 ^ (n.log2 + 2) := Nat.lt_of_lt_of_le Nat.lt_log2_self (Nat.pow_le_pow_right (by omega) (by omega))
    have h2 : n / 2 ^ (n.log2 + 2) = 0 := Nat.div_eq_of_lt h1
    rw [h2]
    have := hm (decide (2 ^ (n.log2 + 2) < 2 * (n % 2 ^ (n.log2 + 2))) || (2 ^ (n.log2 + 2) == 2 * (n % 2 ^ (n.log2 + 2)) && 0 % 2 == 1))
    omega

theorem nearest_low (neg : Bool) (mag : Nat) (place : Int) (e : Nat) (h : mag ≠ 0 → place + (mag.log2 : Int) < e) : Low (e + 1) (Ieee.single.nearest neg mag place) := by
  unfold Low Ieee.Format.nearest
  split
  · rw [show (2147483648 : Nat) = Ieee.single.signWeight from sw32.symm, word_mod _ _ _ (Nat.two_pow_pos _)]
    omega
  · rename_i h0
    have h1 := h h0
    have hil : Ieee.single.infRung < Ieee.single.signWeight := FloatKind.f32.format.infRung_lt
    dsimp only
    rw [show (2147483648 : Nat) = Ieee.single.signWeight from sw32.symm, word_mod _ _ _ (Nat.lt_of_le_of_lt (Nat.min_le_right ..) hil)]
    rw [bi32]
    have el : Ieee.single.leastPlace = -149 := by decide
    have ef : (Ieee.single.fractionBits : Int) = 23 := rfl
    rw [el, ef]
    obtain ⟨last, hlast⟩ : ∃ last, max (place + (mag.log2 : Int) - 23) (-149) = last := ⟨_, rfl⟩
    rw [hlast]
    have hmag : mag < 2 ^ (mag.log2 + 1) := Nat.lt_log2_self
    have hk : Ieee.Toward.even.cut neg (mag <<< (place - last).toNat) (last - place).toNat ≤ 2 ^ 24 := by
      apply cutE_le
      rw [Nat.shiftLeft_eq]
      have h2 : mag * 2 ^ (place - last).toNat < 2 ^ (mag.log2 + 1) * 2 ^ (place - last).toNat := Nat.mul_lt_mul_of_pos_right hmag (Nat.two_pow_pos _)
      rw [← Nat.pow_add] at h2
      exact Nat.lt_of_lt_of_le h2 (Nat.pow_le_pow_right (by omega) (by omega))
    have hr : (last - -149).toNat ≤ e + 125 := by omega
    have h3 : (last - -149).toNat * 8388608 ≤ (e + 125) * 8388608 := Nat.mul_le_mul_right _ hr
    rw [show (2 : Nat) ^ 24 = 16777216 from by decide] at hk
    obtain ⟨kept, hkept⟩ : ∃ kept, Ieee.Toward.even.cut neg (mag <<< (place - last).toNat) (last - place).toNat = kept := ⟨_, rfl⟩
    rw [hkept] at hk ⊢
    obtain ⟨q, hq⟩ : ∃ q, (last - -149).toNat = q := ⟨_, rfl⟩
    rw [hq] at h3 ⊢
    obtain ⟨top, htop⟩ : ∃ top, Ieee.single.infRung = top := ⟨_, rfl⟩
    rw [htop]
    obtain ⟨big, hbig⟩ : ∃ big, q * 8388608 = big := ⟨_, rfl⟩
    rw [hbig] at h3 ⊢
    have h5 : min (big + kept) top ≤ big + kept := Nat.min_le_left _ _
    omega

theorem log2_lt_of {m k : Nat} (h0 : m ≠ 0) (h : m < 2 ^ k) : m.log2 < k := (Nat.log2_lt h0).2 h

theorem read_low {a x : Nat} (ha : a ≤ 128) (h : Low a x) : ∃ s m i, Ieee.single.read x = .number s m i ∧ (m ≠ 0 → i + (m.log2 : Int) < a) := by
  unfold Low at h
  unfold Ieee.Format.read
  dsimp only
  rw [sw32, bi32, ir32]
  have el : Ieee.single.leastPlace = -149 := by decide
  rw [el]
  split
  · rename_i h1
    refine ⟨_, _, _, rfl, fun h0 => ?_⟩
    have := log2_lt_of (k := 23) h0 (by simpa using h1)
    omega
  · rename_i h1
    have h2 : x % 2147483648 < 2139095040 := by
      have : (a + 127) * 8388608 ≤ 255 * 8388608 := Nat.mul_le_mul_right _ (by omega)
      omega
    rw [if_pos h2]
    refine ⟨_, _, _, rfl, fun h0 => ?_⟩
    have h3 := log2_lt_of (k := 24) h0 (by
      have := Nat.mod_lt (x % 2147483648) (show 0 < 8388608 by decide)
      have : (2 : Nat) ^ 24 = 16777216 := by decide
      omega)
    have h4 : x % 2147483648 / 8388608 < a + 127 := Nat.div_lt_of_lt_mul (by rw [Nat.mul_comm]; exact h)
    have h5 : 1 ≤ x % 2147483648 / 8388608 := by omega
    omega

theorem prod_low {a b x y : Nat} (ha : a ≤ 128) (hb : b ≤ 128) (hx : Low a x) (hy : Low b y) : ∃ r, floatBits .mul .f32 x y = some r ∧ Low (a + b + 1) r := by
  obtain ⟨s, m, i, e1, h1⟩ := read_low ha hx
  obtain ⟨t, n, j, e2, h2⟩ := read_low hb hy
  refine ⟨Ieee.single.nearest (s ^^ t) (m * n) (i + j), ?_, ?_⟩
  · show (((Ieee.single.read x).product (Ieee.single.read y)).map Ieee.single.write) = _
    rw [e1, e2]
    rfl
  · refine nearest_low _ _ _ _ fun h0 => ?_
    have hm : m ≠ 0 := fun h => h0 (by rw [h, Nat.zero_mul])
    have hn : n ≠ 0 := fun h => h0 (by rw [h, Nat.mul_zero])
    have h3 := h1 hm
    have h4 := h2 hn
    have h5 : m * n < 2 ^ (m.log2 + n.log2 + 2) := by
      have h6 : m < 2 ^ (m.log2 + 1) := Nat.lt_log2_self
      have h7 : n < 2 ^ (n.log2 + 1) := Nat.lt_log2_self
      calc m * n < 2 ^ (m.log2 + 1) * 2 ^ (n.log2 + 1) := Nat.mul_lt_mul_of_lt_of_lt h6 h7
        _ = 2 ^ (m.log2 + n.log2 + 2) := by rw [← Nat.pow_add]; congr 1; omega
    have h8 := log2_lt_of h0 h5
    omega

theorem signed_abs (s : Bool) (m k : Nat) : (Ieee.signed s m k).natAbs = m * 2 ^ k := by
  unfold Ieee.signed
  rw [Nat.shiftLeft_eq]
  split <;> omega

theorem sum_low_aux {a b : Nat} {s t : Bool} {m n : Nat} {i j : Int} (h1 : m ≠ 0 → i + (m.log2 : Int) < a) (h2 : n ≠ 0 → j + (n.log2 : Int) < b) :
    ∃ r, ((Ieee.Datum.sum (.number s m i) (.number t n j)).map Ieee.single.write) = some r ∧ Low (max a b + 2) r := by
  refine ⟨_, rfl, ?_⟩
  refine nearest_low _ _ _ (max a b + 1) fun h0 => ?_
  obtain ⟨base, hbase⟩ : ∃ base, min i j = base := ⟨_, rfl⟩
  rw [hbase] at h0 ⊢
  have g : ∀ (u : Bool) (q : Nat) (l : Int) (c : Nat), (q ≠ 0 → l + (q.log2 : Int) < c) → base ≤ l → c ≤ max a b → (Ieee.signed u q (l - base).toNat).natAbs < 2 ^ ((max a b : Nat) - base).toNat ∧ (q ≠ 0 → base < (max a b : Nat)) := by
    intro u q l c hq hl hc
    rw [signed_abs]
    by_cases hq0 : q = 0
    · subst hq0
      exact ⟨by rw [Nat.zero_mul]; exact Nat.two_pow_pos _, fun h => absurd rfl h⟩
    · have h3 := hq hq0
      refine ⟨?_, fun _ => by omega⟩
      have h4 : q < 2 ^ (q.log2 + 1) := Nat.lt_log2_self
      refine Nat.lt_of_lt_of_le (Nat.mul_lt_mul_of_pos_right h4 (Nat.two_pow_pos _)) ?_
      rw [← Nat.pow_add]
      exact Nat.pow_le_pow_right (by omega) (by omega)
  have g1 := g s m i a h1 (by omega) (by omega)
  have g2 := g t n j b h2 (by omega) (by omega)
  have hlt : base < (max a b : Nat) := by
    by_cases hm : m = 0
    · by_cases hn : n = 0
      · subst hm hn
        exfalso
        apply h0
        have e1 : (Ieee.signed s 0 (i - base).toNat).natAbs = 0 := by rw [signed_abs]; exact Nat.zero_mul _
        have e2 : (Ieee.signed t 0 (j - base).toNat).natAbs = 0 := by rw [signed_abs]; exact Nat.zero_mul _
        omega
      · exact g2.2 hn
    · exact g1.2 hm
  have h5 : (Ieee.signed s m (i - base).toNat + Ieee.signed t n (j - base).toNat).natAbs < 2 ^ ((max a b : Nat) - base).toNat + 2 ^ ((max a b : Nat) - base).toNat := by
    have := Int.natAbs_add_le (Ieee.signed s m (i - base).toNat) (Ieee.signed t n (j - base).toNat)
    omega
  have h6 : (Ieee.signed s m (i - base).toNat + Ieee.signed t n (j - base).toNat).natAbs < 2 ^ (((max a b : Nat) - base).toNat + 1) := by
    rw [Nat.pow_succ]
    omega
  have h7 := log2_lt_of h0 h6
  omega

theorem add_low {a b x y : Nat} (ha : a ≤ 128) (hb : b ≤ 128) (hx : Low a x) (hy : Low b y) : ∃ r, floatBits .add .f32 x y = some r ∧ Low (max a b + 2) r := by
  obtain ⟨s, m, i, e1, h1⟩ := read_low ha hx
  obtain ⟨t, n, j, e2, h2⟩ := read_low hb hy
  obtain ⟨r, h3, h4⟩ := sum_low_aux (s := s) (t := t) h1 h2
  refine ⟨r, ?_, h4⟩
  show (((Ieee.single.read x).sum (Ieee.single.read y)).map Ieee.single.write) = _
  rw [e1, e2]
  exact h3

theorem sub_low {a b x y : Nat} (ha : a ≤ 128) (hb : b ≤ 128) (hx : Low a x) (hy : Low b y) : ∃ r, floatBits .sub .f32 x y = some r ∧ Low (max a b + 2) r := by
  obtain ⟨s, m, i, e1, h1⟩ := read_low ha hx
  obtain ⟨t, n, j, e2, h2⟩ := read_low hb hy
  obtain ⟨r, h3, h4⟩ := sum_low_aux (s := s) (t := !t) h1 h2
  refine ⟨r, ?_, h4⟩
  show (((Ieee.single.read x).sum (Ieee.single.read y).opposite).map Ieee.single.write) = _
  rw [e1, e2]
  exact h3

theorem low_nn {a x : Nat} (ha : a ≤ 128) (h : Low a x) : nanB .f32 x = false := by
  obtain ⟨s, m, i, e1, _⟩ := read_low ha h
  show (Ieee.single.read x).isNaN = false
  rw [e1]
  rfl

/-- such a word stands for a number -/
theorem low_fin {a x : Nat} (ha : a ≤ 128) (h : Low a x) : finB (fl .f32 x) = true := by
  obtain ⟨s, m, i, e1, _⟩ := read_low ha h
  have hs : floatBits .sub .f32 x x = some 0 := by
    show (((Ieee.single.read x).sum (Ieee.single.read x).opposite).map Ieee.single.write) = _
    rw [e1]
    have e2 : Ieee.signed s m (i - i).toNat + Ieee.signed (!s) m (i - i).toNat = 0 := by
      unfold Ieee.signed
      cases s <;> simp <;> omega
    simp only [Ieee.Datum.opposite, Ieee.Datum.sum, Int.min_self, e2, Option.map_some]
    have e3 : ∀ i : Int, Ieee.single.write (Ieee.Datum.number false 0 i) = 0 := fun i => by
      show Ieee.single.nearest false 0 i = 0
      unfold Ieee.Format.nearest
      rw [if_pos rfl]
      rfl
    cases s <;> exact congrArg some (e3 i)
  unfold finB
  rw [fl_nn (low_nn ha h)]
  have e3 : fop .sub .f32 (some x) (some x) = some 0 := hs
  rw [e3]
  decide

/-- one step of a loss's polarization -/
def vop (op : BinOp) (x y : Nat) : Nat := (floatBits op .f32 x y).getD 0
theorem vop_some {op : BinOp} {x y r : Nat} (h : floatBits op .f32 x y = some r) : floatBits op .f32 x y = some (vop op x y) := by unfold vop; rw [h]; rfl
theorem fres_vop {op : BinOp} {x y r : Nat} (h : floatBits op .f32 x y = some r) (t : Tape) (d : Nat) : fres op .f32 x y t d = vop op x y := by unfold vop fres; rw [h]; rfl

theorem step_low {a z : Nat} (h1 : 1 ≤ a) (ha : a ≤ 62) (hz : Low a z) :
    (∃ r, floatBits .add .f32 z z = some r) ∧ (∃ r, floatBits .mul .f32 z z = some r) ∧ (∃ r, floatBits .sub .f32 (vop .add z z) (vop .mul z z) = some r) ∧ Low (2 * a + 3) (vop .sub (vop .add z z) (vop .mul z z)) ∧ Low (2 * a + 3) (vop .mul z z) := by
  obtain ⟨s, hs, ls⟩ := add_low (by omega) (by omega) hz hz
  obtain ⟨m, hm, lm⟩ := prod_low (by omega) (by omega) hz hz
  have es : vop .add z z = s := by unfold vop; rw [hs]; rfl
  have em : vop .mul z z = m := by unfold vop; rw [hm]; rfl
  rw [es, em]
  obtain ⟨d, hd, ld⟩ := sub_low (by omega) (by omega) ls lm
  have ed : vop .sub s m = d := by unfold vop; rw [hd]; rfl
  rw [ed]
  exact ⟨⟨_, hs⟩, ⟨_, hm⟩, ⟨_, hd⟩, ld.mono (by omega), lm.mono (by omega)⟩

end Go.Proofs.Ytopeidmafalklaa
