/-
  Contracts: weights of the words of a code, and its distance.
  Conditions: lengths at most 1048576.
-/
import Derived.Test.YtldnhflgpbcmeaaPY
namespace Go.Proofs.Ytldnhflgpbcmeaa
open Go.RowKit


def weightsV (m : Int) (xs : List Int) : List Int := if validParB m xs then wtRow m.toNat (codeL xs) else []
def distV (m : Int) (xs : List Int) : Int := if validParB m xs then (((distK (wtRow m.toNat (codeL xs)) m.toNat).getD 0 : Nat) : Int) else 0
theorem codeL_mem {xs : List Int} {x : Int} (h : x ∈ codeL xs) : ∃ k : Nat, k < 2 ^ xs.length ∧ encL xs k = x := by
  obtain ⟨k, hk, rfl⟩ := List.mem_map.1 h
  exact ⟨k, List.mem_range.1 hk, rfl⟩
theorem codeL_bd {M : Nat} (hM : M ≤ 16) {xs : List Int} (h : ∀ x ∈ xs, 0 ≤ x ∧ x < 2 ^ M) {x : Int} (hx : x ∈ codeL xs) : 0 ≤ x ∧ x < 2 ^ M := by
  obtain ⟨k, _, rfl⟩ := codeL_mem hx
  exact encK_bd hM h _ _
theorem codeL_len (xs : List Int) : (codeL xs).length = 2 ^ xs.length := codeK_len _ _
theorem wt_bd16 {M : Nat} (hM : M ≤ 16) {x : Int} (h : 0 ≤ x ∧ x < 2 ^ M) : 0 ≤ x ∧ x < 65536 ∧ 0 ≤ wt x ∧ wt x ≤ M := by
  have hp := pow16 hM
  have := wt_bd hM h.1 h.2
  omega
theorem xorI_zero_left {a : Int} (h0 : 0 ≤ a) (h1 : a < 65536) : xorI 0 a = a := by
  obtain ⟨n, rfl⟩ : ∃ n : Nat, a = n := ⟨a.toNat, by omega⟩
  have := xorI_nat 0 n (by omega) (by omega)
  rw [Nat.zero_xor] at this
  exact this
theorem hasD_pow : ∀ i < 8, ∀ j < 8, hasD ((2 ^ i : Nat) : Int) ((j : Nat) : Int) = decide (j = i) := by decide +kernel
theorem encK_one {xs : List Int} {i : Nat} (hi : i < 8) (hb : 0 ≤ xs.getD i 0 ∧ xs.getD i 0 < 65536) (k : Nat) (hk : k ≤ 8) : encK xs ((2 ^ i : Nat) : Int) k = if i < k then xs.getD i 0 else 0 := by
  induction k with
  | zero => simp [encK]
  | succ k ih =>
    rw [encK, hasD_pow i hi k (by omega), ih (by omega)]
    by_cases h : k = i
    · subst h
      rw [if_pos (by simp), if_neg (by omega), if_pos (by omega), xorI_zero_left hb.1 hb.2]
    · rw [if_neg (by simpa using h)]
      by_cases h2 : i < k
      · rw [if_pos h2, if_pos (by omega)]
      · rw [if_neg h2, if_neg (by omega)]
/-- a valid code has a word of some weight -/
theorem dist_some {M : Nat} {xs : List Int} (h : validParB (M : Int) xs = true) : ∃ d, distK (wtRow M (codeL xs)) M = some d := by
  unfold validParB at h
  rw [Bool.and_eq_true] at h
  obtain ⟨hr, hs⟩ := h
  obtain ⟨m1, m2, n1, n8, hx⟩ := par_facts hr
  have hM : M ≤ 16 := by omega
  have hx' : ∀ x ∈ xs, 0 ≤ x ∧ x < 2 ^ M := hx
  have hs' : (stepsOf (M : Int) xs).2 = xs.length := by simpa using hs
  obtain ⟨x, hxm, hx0⟩ := stepsGo_some M xs (by
    have e : stepsOf (M : Int) xs = stepsGo M (xs, 0) := rfl
    rw [← e, hs']; omega)
  obtain ⟨i, hi, rfl⟩ := List.mem_iff_getElem.1 hxm
  have hb := hx' _ hxm
  have hp := pow16 hM
  have hg : xs.getD i 0 = xs[i] := by simp [List.getD, hi]
  have hmem : xs[i] ∈ codeL xs := by
    refine List.mem_map.2 ⟨2 ^ i, List.mem_range.2 (Nat.pow_lt_pow_right (by decide) hi), ?_⟩
    unfold encL
    rw [encK_one (by omega) (by rw [hg]; omega) xs.length n8, if_pos hi, hg]
  have hwt := wt_bd16 hM hb
  have hpos : 0 < wt xs[i] := by
    unfold wt
    have := pcF_pos (f := 16) (x := (xs[i]).toNat) (by omega) (by omega)
    omega
  obtain ⟨d, hd⟩ : ∃ d : Nat, wt xs[i] = d := ⟨(wt xs[i]).toNat, by omega⟩
  have hcount : 0 < (wtRow M (codeL xs)).getD d 0 := by
    rw [wtRow_get M _ d (by omega)]
    have : 0 < (codeL xs).countP fun x => wt x == (d : Int) := List.countP_pos_iff.2 ⟨_, hmem, by simp [hd]⟩
    omega
  cases hf : distK (wtRow M (codeL xs)) M with
  | some e => exact ⟨e, rfl⟩
  | none =>
    unfold distK at hf
    rw [List.find?_eq_none] at hf
    have := hf d (List.mem_map.2 ⟨d - 1, List.mem_range.2 (by omega), by omega⟩)
    exact absurd (decide_eq_true hcount) this

end Go.Proofs.Ytldnhflgpbcmeaa
