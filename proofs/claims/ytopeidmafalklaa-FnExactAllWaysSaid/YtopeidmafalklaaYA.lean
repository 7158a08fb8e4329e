/-
  Plain: halves: divided by two is multiplied by a half; tables of logarithms of sums, step by step.
  Conditions: none.
-/
import Derived.Test.YtopeidmafalklaaGY
import Derived.Test.YtopeidmafalklaaWC
namespace Go.Proofs.Ytopeidmafalklaa
open Ieee Go.RowKit

theorem cut_scale (neg : Bool) (n d k : Nat) (hn : n ≠ 0) : Toward.even.cut neg (n * 2 ^ k) (d + k) = Toward.even.cut neg n d := by
  have hp : 0 < 2 ^ k := Nat.two_pow_pos k
  unfold Toward.cut
  rw [log2_mul_pow _ _ hn]
  have e1 : min (d + k) (n.log2 + k + 2) = min d (n.log2 + 2) + k := by omega
  simp only [e1, Nat.one_shiftLeft]
  obtain ⟨p, hpp⟩ : ∃ p, min d (n.log2 + 2) = p := ⟨_, rfl⟩
  rw [hpp, Nat.pow_add, Nat.mul_div_mul_right _ _ hp, Nat.mul_mod_mul_right]
  have e2 : (decide (2 ^ p * 2 ^ k < 2 * (n % 2 ^ p * 2 ^ k))) = decide (2 ^ p < 2 * (n % 2 ^ p)) := by
    rw [← Nat.mul_assoc]
    exact decide_eq_decide.2 (Nat.mul_lt_mul_right hp)
  have e3 : (2 ^ p * 2 ^ k == 2 * (n % 2 ^ p * 2 ^ k)) = (2 ^ p == 2 * (n % 2 ^ p)) := by
    rw [← Nat.mul_assoc]
    by_cases h : 2 ^ p = 2 * (n % 2 ^ p)
    · have : 2 ^ p * 2 ^ k = 2 * (n % 2 ^ p) * 2 ^ k := congrArg (· * 2 ^ k) h
      rw [beq_iff_eq.2 h, beq_iff_eq.2 this]
    · have : ¬ 2 ^ p * 2 ^ k = 2 * (n % 2 ^ p) * 2 ^ k := fun q => h (Nat.eq_of_mul_eq_mul_right hp q)
      rw [beq_eq_false_iff_ne.2 h, beq_eq_false_iff_ne.2 this]
  rw [e2, e3]
theorem nearest_scale (f : Format) (neg : Bool) (mag : Nat) (place : Int) (k : Nat) : f.nearest neg (mag * 2 ^ k) (place - k) = f.nearest neg mag place := by
  by_cases h0 : mag = 0
  · subst h0
    rw [Nat.zero_mul]
    unfold Format.nearest
    rfl
  have hp : 0 < 2 ^ k := Nat.two_pow_pos k
  have h1 : mag * 2 ^ k ≠ 0 := by
    intro h
    rcases Nat.mul_eq_zero.1 h with q | q
    · exact h0 q
    · omega
  unfold Format.nearest
  rw [if_neg h0, if_neg h1, log2_mul_pow _ _ h0]
  have e0 : place - (k : Int) + ((mag.log2 + k : Nat) : Int) - (f.fractionBits : Int) = place + (mag.log2 : Int) - (f.fractionBits : Int) := by omega
  rw [e0]
  obtain ⟨last, hlast⟩ : ∃ l, max (place + (mag.log2 : Int) - (f.fractionBits : Int)) f.leastPlace = l := ⟨_, rfl⟩
  rw [hlast]
  dsimp only
  have key : Toward.even.cut neg ((mag * 2 ^ k) <<< (place - k - last).toNat) (last - (place - k)).toNat = Toward.even.cut neg (mag <<< (place - last).toNat) (last - place).toNat := by
    rw [Nat.shiftLeft_eq, Nat.shiftLeft_eq]
    rcases Int.le_total place last with h | h
    · rw [show (place - last).toNat = 0 by omega, show (place - k - last).toNat = 0 by omega, Nat.pow_zero, Nat.mul_one, Nat.mul_one, show (last - (place - k)).toNat = (last - place).toNat + k by omega]
      exact cut_scale neg mag _ k h0
    · obtain ⟨e, he⟩ : ∃ e : Nat, (place - last).toNat = e := ⟨_, rfl⟩
      have hm : mag * 2 ^ e ≠ 0 := by
        have := Nat.two_pow_pos e
        intro q
        rcases Nat.mul_eq_zero.1 q with q | q
        · exact h0 q
        · omega
      rw [he, show (last - place).toNat = 0 by omega]
      rcases Nat.le_total e k with h2 | h2
      · rw [show (place - k - last).toNat = 0 by omega, show (last - (place - k)).toNat = 0 + (k - e) by omega, Nat.pow_zero, Nat.mul_one]
        have := cut_scale neg (mag * 2 ^ e) 0 (k - e) hm
        rw [Nat.mul_assoc, ← Nat.pow_add, show e + (k - e) = k by omega] at this
        exact this
      · rw [show (place - k - last).toNat = e - k by omega, show (last - (place - k)).toNat = 0 by omega, Nat.mul_assoc, ← Nat.pow_add, show k + (e - k) = e by omega]
  rw [key]
/-- divided by two is multiplied by a half -/
theorem half_eq (a : Nat) : floatBits .quo .f32 a 1073741824 = floatBits .mul .f32 1056964608 a := by
  by_cases hn : nanB .f32 a = true
  · rw [floatBits_nan (.inl hn), floatBits_nan (.inr hn)]
  have hn' : nanB .f32 a = false := by simpa using hn
  have r2 : single.read 1073741824 = .number false 8388608 (-22) := by decide
  have rh : single.read 1056964608 = .number false 8388608 (-24) := by decide
  show ((single.read a).quotient (single.fractionBits + 2) (single.read 1073741824)).map single.write = ((single.read 1056964608).product (single.read a)).map single.write
  rw [r2, rh]
  rcases nn_abs hn' with q | q
  · rw [readF q]
    obtain ⟨m, hm⟩ : ∃ m, manF (absF a) = m := ⟨_, rfl⟩
    have hml : m < 16777216 := by rw [← hm]; exact manF_lt _
    obtain ⟨i, hi⟩ : ∃ i : Int, -149 + (plcF (absF a) : Int) = i := ⟨_, rfl⟩
    rw [hm, hi]
    have hfb : single.fractionBits = 23 := rfl
    have hl23 : Nat.log2 8388608 = 23 := by decide
    have hlog : m.log2 < 24 := by
      by_cases h0 : m = 0
      · subst h0; decide
      · exact (Nat.log2_lt h0).2 (by omega)
    unfold Datum.quotient Datum.product
    simp only [hfb, hl23, Nat.reduceAdd, Bool.false_xor, Bool.xor_false, Option.map_some]
    rw [if_neg (by decide)]
    simp only [Option.map_some, Option.some.injEq]
    obtain ⟨e, he⟩ : ∃ e, 48 - m.log2 = 23 + e := ⟨25 - m.log2, by omega⟩
    rw [he, Nat.shiftLeft_eq, Nat.pow_add, ← Nat.mul_assoc, Nat.mul_right_comm m (2 ^ 23) (2 ^ e), show (2 : Nat) ^ 23 = 8388608 by decide, Nat.mul_div_cancel _ (by decide), Nat.mul_mod_left]
    show single.nearest (sgnF a) (2 * (m * 2 ^ e) + (0 != 0 : Bool).toNat) (i - -22 - ((23 + e : Nat) : Int) - 1) = single.nearest (sgnF a) (8388608 * m) (-24 + i)
    rw [show 2 * (m * 2 ^ e) + (0 != 0 : Bool).toNat = m * 2 ^ (e + 1) by rw [Nat.pow_succ]; show 2 * (m * 2 ^ e) = m * (2 ^ e * 2); rw [Nat.mul_comm 2, Nat.mul_assoc], show 8388608 * m = m * 2 ^ 23 by rw [show (2 : Nat) ^ 23 = 8388608 by decide]; omega, show i - -22 - ((23 + e : Nat) : Int) - 1 = (i - 1) - ((e + 1 : Nat) : Int) by omega, show -24 + i = (i - 1) - ((23 : Nat) : Int) by omega, nearest_scale, nearest_scale]
  · rw [read_infS q]
    rfl
theorem half_eqO (g : Option Nat) : fop .quo .f32 g (some 1073741824) = fop .mul .f32 (some 1056964608) g := by
  cases g with
  | none => rfl
  | some a => exact half_eq a

/-! ### tables -/
abbrev St := Option (Option Nat)
def halfO (ms : List Int) (part : List Nat) (s : Nat) (b : Bool) : Option Nat := fop .mul .f32 (some 1056964608) (gainO (some 0) (sentL ms (2 * (s : Int) + bitI b)) part ms.length)
def noneR (S : Nat) : List St := List.replicate S none
def oneR (S : Nat) : List St := (List.replicate S none).set 0 (some (some 0))
def fwdE (M : Nat) (ms : List Int) (part : List Nat) (last : Bool) (a : List St) (s : Nat) (b : Bool) (T : List St) : List St :=
  if b && last then T else T.set (toS M s b) (joinS (T.getD (toS M s b) none) (plusS (a.getD s none) (halfO ms part s b)))
def bwdE (M : Nat) (ms : List Int) (part : List Nat) (last : Bool) (a : List St) (s : Nat) (b : Bool) (T : List St) : List St :=
  if b && last then T else T.set s (joinS (T.getD s none) (plusS (a.getD (toS M s b) none) (halfO ms part s b)))
def fwdR (M : Nat) (ms : List Int) (part : List Nat) (last : Bool) (a : List St) : Nat → List St
  | 0 => noneR (2 ^ M)
  | s + 1 => fwdE M ms part last a s true (fwdE M ms part last a s false (fwdR M ms part last a s))
def bwdR (M : Nat) (ms : List Int) (part : List Nat) (last : Bool) (a : List St) : Nat → List St
  | 0 => noneR (2 ^ M)
  | s + 1 => bwdE M ms part last a s true (bwdE M ms part last a s false (bwdR M ms part last a s))
def fwdT (M : Nat) (ms : List Int) (soft : List Nat) (n : Nat) : Nat → List St
  | 0 => oneR (2 ^ M)
  | t + 1 => fwdR M ms (partL ms.length soft t) (decide (n ≤ t)) (fwdT M ms soft n t) (2 ^ M)
/-- so many steps from the end -/
def bwdT (M : Nat) (ms : List Int) (soft : List Nat) (n : Nat) : Nat → List St
  | 0 => oneR (2 ^ M)
  | k + 1 => bwdR M ms (partL ms.length soft (n + M - 1 - k)) (decide (n ≤ n + M - 1 - k)) (bwdT M ms soft n k) (2 ^ M)
/-- what a move adds to a bit's sum -/
def sumX (x : St) (y : St) (h : Option Nat) (u : St) : St := match x, y with
  | some p, some q => joinS u (some (fop .add .f32 (fop .add .f32 p h) q))
  | _, _ => u
def sumE (M : Nat) (ms : List Int) (part : List Nat) (a b : List St) (s : Nat) (c : Bool) (u : St) : St := sumX (a.getD s none) (b.getD (toS M s c) none) (halfO ms part s c) u
def sumR (M : Nat) (ms : List Int) (part : List Nat) (a b : List St) (c : Bool) : Nat → St
  | 0 => none
  | s + 1 => sumE M ms part a b s c (sumR M ms part a b c s)
def sumT (M : Nat) (ms : List Int) (soft : List Nat) (n t : Nat) (c : Bool) : St := sumR M ms (partL ms.length soft t) (fwdT M ms soft n t) (bwdT M ms soft n (n + M - (t + 1))) c (2 ^ M)
def outS (x y : St) : Option (Option Nat) := match x, y with
  | some p, some q => some (fop .sub .f32 q p)
  | _, _ => none
def outT (M : Nat) (ms : List Int) (soft : List Nat) (n : Nat) : Nat → Option (List (Option Nat))
  | 0 => some []
  | t + 1 => (outT M ms soft n t).bind fun l => (outS (sumT M ms soft n t false) (sumT M ms soft n t true)).map fun z => l ++ [z]
/-! sizes -/
theorem fwdE_len {M : Nat} {ms : List Int} {part : List Nat} {last : Bool} {a T : List St} {s : Nat} {b : Bool} : (fwdE M ms part last a s b T).length = T.length := by
  unfold fwdE
  split
  · rfl
  · exact List.length_set ..
theorem bwdE_len {M : Nat} {ms : List Int} {part : List Nat} {last : Bool} {a T : List St} {s : Nat} {b : Bool} : (bwdE M ms part last a s b T).length = T.length := by
  unfold bwdE
  split
  · rfl
  · exact List.length_set ..
theorem fwdR_len {M : Nat} {ms : List Int} {part : List Nat} {last : Bool} {a : List St} : ∀ s, (fwdR M ms part last a s).length = 2 ^ M
  | 0 => List.length_replicate ..
  | s + 1 => by unfold fwdR; rw [fwdE_len, fwdE_len]; exact fwdR_len s
theorem bwdR_len {M : Nat} {ms : List Int} {part : List Nat} {last : Bool} {a : List St} : ∀ s, (bwdR M ms part last a s).length = 2 ^ M
  | 0 => List.length_replicate ..
  | s + 1 => by unfold bwdR; rw [bwdE_len, bwdE_len]; exact bwdR_len s
theorem oneR_len (S : Nat) : (oneR S).length = S := by unfold oneR; rw [List.length_set, List.length_replicate]
theorem fwdT_len {M : Nat} {ms : List Int} {soft : List Nat} {n : Nat} : ∀ t, (fwdT M ms soft n t).length = 2 ^ M
  | 0 => oneR_len _
  | _ + 1 => fwdR_len _
theorem bwdT_len {M : Nat} {ms : List Int} {soft : List Nat} {n : Nat} : ∀ t, (bwdT M ms soft n t).length = 2 ^ M
  | 0 => oneR_len _
  | _ + 1 => bwdR_len _
theorem joinS_none (x : St) : joinS x none = x := by cases x <;> rfl
theorem set_same {T : List St} {k : Nat} : T.set k (T.getD k none) = T := by
  by_cases h : k < T.length
  · refine List.ext_getElem (by simp) fun i h1 h2 => ?_
    rw [List.getElem_set]
    split
    · rename_i e; subst e; simp [List.getD, h]
    · rfl
  · exact List.set_eq_of_length_le (by omega)
theorem fwdE_not {M : Nat} {ms : List Int} {part : List Nat} {last : Bool} {a T : List St} {s : Nat} {b : Bool} (h : a.getD s none = none) : fwdE M ms part last a s b T = T := by
  unfold fwdE
  split
  · rfl
  · rw [h]
    show T.set _ (joinS _ none) = T
    rw [joinS_none, set_same]
theorem fwdE_last {M : Nat} {ms : List Int} {part : List Nat} {a T : List St} {s : Nat} : fwdE M ms part true a s true T = T := rfl
theorem fwdE_yes {M : Nat} {ms : List Int} {part : List Nat} {last : Bool} {a T : List St} {s : Nat} {b : Bool} (h : (b && last) = false) : fwdE M ms part last a s b T = T.set (toS M s b) (joinS (T.getD (toS M s b) none) (plusS (a.getD s none) (halfO ms part s b))) := by
  unfold fwdE; rw [h]; rfl
theorem bwdE_not {M : Nat} {ms : List Int} {part : List Nat} {last : Bool} {a T : List St} {s : Nat} {b : Bool} (h : a.getD (toS M s b) none = none) : bwdE M ms part last a s b T = T := by
  unfold bwdE
  split
  · rfl
  · rw [h]
    show T.set _ (joinS _ none) = T
    rw [joinS_none, set_same]
theorem bwdE_last {M : Nat} {ms : List Int} {part : List Nat} {a T : List St} {s : Nat} : bwdE M ms part true a s true T = T := rfl
theorem bwdE_yes {M : Nat} {ms : List Int} {part : List Nat} {last : Bool} {a T : List St} {s : Nat} {b : Bool} (h : (b && last) = false) : bwdE M ms part last a s b T = T.set s (joinS (T.getD s none) (plusS (a.getD (toS M s b) none) (halfO ms part s b))) := by
  unfold bwdE; rw [h]; rfl
theorem fwdR_not {M : Nat} {ms : List Int} {part : List Nat} {last : Bool} {a : List St} {s : Nat} (h : a.getD s none = none) : fwdR M ms part last a (s + 1) = fwdR M ms part last a s := by
  show fwdE _ _ _ _ _ _ true (fwdE _ _ _ _ _ _ false _) = _
  rw [fwdE_not h, fwdE_not h]

end Go.Proofs.Ytopeidmafalklaa
