/-
  Plain: messages between rows and bits: what a row answers, what a bit is told (words of float32, no sum overflows).
  Conditions: as each theorem says.
-/
import Derived.Test.YtepdjehbgkfjhaaKH
namespace Go.Proofs.Ytepdjehbgkfjhaa
open Go.RowKit

/-! ### a number times minus three quarters -/
theorem mul_low {a x : Nat} (ha : a ≤ 127) (hx : Low a x) : ∃ r, floatBits .mul .f32 1061158912 x = some r ∧ Low (a + 1) r := by
  have h0 : Low 0 1061158912 := by unfold Low; decide
  obtain ⟨r, h1, h2⟩ := prod_low (a := 0) (b := a) (by decide) (by omega) h0 hx
  exact ⟨r, h1, by simpa using h2⟩
theorem word_neg (f : Ieee.Format) (neg : Bool) (r : Nat) (h : r < f.signWeight) (hs : f.signWeight = 2147483648) : f.word (!neg) r = f.word neg r ^^^ 2 ^ 31 := by
  unfold Ieee.Format.word
  rw [hs] at h ⊢
  have e : r ^^^ 2 ^ 31 = 2147483648 + r := by
    have h1 : r < 2 ^ 31 := h
    have := Nat.two_pow_add_eq_or_of_lt h1 1
    have h2 : r ^^^ 2 ^ 31 = 2 ^ 31 ||| r := by
      apply Nat.eq_of_testBit_eq
      intro i
      rw [Nat.testBit_xor, Nat.testBit_or, Nat.testBit_two_pow]
      by_cases hi : 31 = i
      · subst hi
        rw [Nat.testBit_lt_two_pow h1]
        simp
      · simp [hi]
    rw [h2]
    simpa using this.symm
  cases neg
  · simp [e]
  · have e2 : (2147483648 + r) ^^^ 2 ^ 31 = r := by rw [← e, Nat.xor_assoc, Nat.xor_self, Nat.xor_zero]
    simp [e2]
theorem nearest_neg (neg : Bool) (mag : Nat) (place : Int) : Ieee.single.nearest (!neg) mag place = Ieee.single.nearest neg mag place ^^^ 2 ^ 31 := by
  unfold Ieee.Format.nearest
  have hsw : Ieee.single.signWeight = 2147483648 := sw32
  split
  · exact word_neg _ _ _ (by rw [hsw]; decide) hsw
  · dsimp only
    refine word_neg _ _ _ ?_ hsw
    refine Nat.lt_of_le_of_lt (Nat.min_le_right _ _) ?_
    rw [ir32, hsw]
    decide
theorem mul_neg {a x : Nat} (ha : a ≤ 127) (hx : Low a x) : floatBits .mul .f32 3208642560 x = some (Op.negFloat .f32 (vop .mul 1061158912 x)) := by
  obtain ⟨s, m, i, e, _⟩ := read_fin (low_fin32 (by omega) hx)
  have e1 : floatBits .mul .f32 1061158912 x = some (Ieee.single.nearest (false ^^ s) (12582912 * m) (-24 + i)) := by
    show (((Ieee.single.read 1061158912).product (Ieee.single.read x)).map Ieee.single.write) = _
    rw [e, show Ieee.single.read 1061158912 = .number false 12582912 (-24) by decide]
    rfl
  have e2 : floatBits .mul .f32 3208642560 x = some (Ieee.single.nearest (true ^^ s) (12582912 * m) (-24 + i)) := by
    show (((Ieee.single.read 3208642560).product (Ieee.single.read x)).map Ieee.single.write) = _
    rw [e, show Ieee.single.read 3208642560 = .number true 12582912 (-24) by decide]
    rfl
  have e3 : vop .mul 1061158912 x = Ieee.single.nearest (false ^^ s) (12582912 * m) (-24 + i) := by unfold vop; rw [e1]; rfl
  rw [e2, e3]
  have e4 : (true ^^ s) = !(false ^^ s) := by cases s <;> rfl
  rw [e4, nearest_neg]
  rfl

/-! ### the least absolute value, the signs -/
/-- what a row has seen of the messages of the first k bits, without one: the least absolute value, whether an odd number are above 0 -/
def ansSt (xs : List Nat) (to : Nat) : Nat → Option Nat × Bool
  | 0 => (none, false)
  | k + 1 =>
    let st := ansSt xs to k
    if k = to then st else
      let x := xs.getD k 0
      let y := absW x
      (match st.1 with | none => some y | some z => some (if FloatKind.f32.format.order y z == some .lt then y else z), st.2 != (FloatKind.f32.format.order x 0 == some .gt))
/-- the answer of a row to a bit -/
def ansW (xs : List Nat) (to : Nat) : Nat :=
  let st := ansSt xs to xs.length
  let y := vop .mul 1061158912 (st.1.getD 1148846080)
  if st.2 then y else Op.negFloat .f32 y
theorem neg_low {a x : Nat} (h : Low a x) : Low a (Op.negFloat .f32 x) := by
  have e : Op.negFloat .f32 x = x ^^^ 2 ^ 31 := rfl
  have h1 : (x ^^^ 2 ^ 31) % 2 ^ 31 = x % 2 ^ 31 := by rw [Nat.xor_mod_two_pow]; simp
  have h3 : (x ^^^ 2 ^ 31) % 2147483648 = x % 2147483648 := h1
  rw [e]
  unfold Low
  rw [h3]
  exact h
theorem abs_low {a x : Nat} (h : Low a x) : Low a (absW x) := by
  unfold absW
  split
  · exact neg_low h
  · exact h
theorem ansSt_low {a : Nat} {xs : List Nat} (h : ∀ x ∈ xs, Low a x) (to : Nat) : ∀ k, k ≤ xs.length → ∀ z, (ansSt xs to k).1 = some z → Low a z
  | 0, _, z, hz => by cases hz
  | k + 1, hk, z, hz => by
    have ih := ansSt_low h to k (by omega)
    unfold ansSt at hz
    dsimp only at hz
    split at hz
    · exact ih z hz
    · have hx : Low a (absW (xs.getD k 0)) := by
        rw [List.getD_eq_getElem?_getD, List.getElem?_eq_getElem (by omega)]
        exact abs_low (h _ (List.getElem_mem _))
      cases hst : (ansSt xs to k).1 with
      | none => rw [hst] at hz; cases hz; exact hx
      | some u =>
        rw [hst] at hz
        have hz2 : (if FloatKind.f32.format.order (absW (xs.getD k 0)) u == some .lt then absW (xs.getD k 0) else u) = z := Option.some.inj hz
        rw [← hz2]
        split
        · exact hx
        · exact ih u hst
theorem ansW_low {a : Nat} {xs : List Nat} (ha : 10 ≤ a) (ha2 : a ≤ 120) (h : ∀ x ∈ xs, Low a x) (to : Nat) : Low (a + 1) (ansW xs to) := by
  have h0 : Low a ((ansSt xs to xs.length).1.getD 1148846080) := by
    cases hst : (ansSt xs to xs.length).1 with
    | none => exact Low.mono (a := 10) (by unfold Low; decide) ha
    | some z => exact ansSt_low h to _ (Nat.le_refl _) z hst
  obtain ⟨r, h1, h2⟩ := mul_low (by omega) h0
  have e : vop .mul 1061158912 ((ansSt xs to xs.length).1.getD 1148846080) = r := by unfold vop; rw [h1]; rfl
  unfold ansW
  dsimp only
  rw [e]
  split
  · exact h2
  · exact neg_low h2

/-! ### what a bit is told -/
/-- the messages of a row to a bit, put to a sum -/
def rowW (l : List Int) (ms : List Nat) (bit : Int) (s : Nat) : Nat → Nat
  | 0 => s
  | k + 1 => let t := rowW l ms bit s k
    if l.getD k 0 = bit then vop .add t (ms.getD k 0) else t
/-- the number of a bit and the messages of the first r rows, without one -/
def toldW (D : List (List Int)) (M : List (List Nat)) (s : Nat) (bit without : Int) : Nat → Nat
  | 0 => s
  | r + 1 => let t := toldW D M s bit without r
    if (r : Int) = without then t else rowW (D.getD r []) (M.getD r []) bit t (D.getD r []).length
theorem rowW_no {l : List Int} {ms : List Nat} {bit : Int} (s k : Nat) (h : ∀ j, j < k → l.getD j 0 ≠ bit) : rowW l ms bit s k = s := by
  induction k with
  | zero => rfl
  | succ k ih => rw [rowW, if_neg (h k (by omega)), ih fun j hj => h j (by omega)]
/-- a bit stands at most once in a row -/
theorem rowW_one {l : List Int} {ms : List Nat} {bit : Int} {at_ : Nat} (s k : Nat) (hk : at_ < k) (h : l.getD at_ 0 = bit) (hu : ∀ j, j < k → l.getD j 0 = bit → j = at_) : rowW l ms bit s k = vop .add s (ms.getD at_ 0) := by
  induction k with
  | zero => omega
  | succ k ih =>
    rw [rowW]
    by_cases e : k = at_
    · subst e
      rw [if_pos h, rowW_no s k fun j hj he => by have := hu j (by omega) he; omega]
    · rw [if_neg fun he => e (hu k (by omega) he)]
      exact ih (by omega) fun j hj => hu j (by omega)

end Go.Proofs.Ytepdjehbgkfjhaa
