/-
  Plain: gains of strong soft numbers are exact; all ways tell the bits that were sent.
  Conditions: as each theorem says.
  Plain: all ways of what was sent strongly tell its bits.
  Conditions: as each theorem says.
  Plain: the best way of exact gains: its gain is that of its path, and no path's is greater.
  Conditions: as each theorem says.
  Plain: what a law on ways asks: the best way of what was sent, its gain; sums in double precision.
  Conditions: as each theorem says.
  Contracts: what is drawn from bytes: a source, its numbers.
  Conditions: at most 1048576 bytes; few draws.
  Contracts: bits that are drawn from bytes; lists of bits compared.
  Conditions: at most 1048576 bytes; few draws.
  Plain: an append at the end of a drawn region.
  Conditions: one value more, within the length bound.
  Contracts: soft numbers and coders that are drawn from bytes, exactly.
  Conditions: at most 1048576 bytes; few draws.
  Contracts: points of bits, of the program and of the reference.
  Conditions: lengths at most 1048576.
-/
import Derived.Test.YtopeidmafalklaaPk06
import Derived.Test.YtopeidmafalklaaPk07
import Derived.Test.YtopeidmafalklaaPk03
import Derived.Test.YtopeidmafalklaaPk05
import Derived.Test.YtopeidmafalklaaPk02
import Derived.Deep.QuietTactic
import Derived.BigQuiet
import Derived.IntWalk
import Derived.Test.YtopeidmafalklaaPk01
import Derived.StillTail
import Derived.StillTailTactics
import Derived.Deep.RegionHeld3
import Derived.Test.YtopeidmafalklaaPk04
import Derived.Laws.Cover3

namespace Go.Proofs.Ytopeidmafalklaa
open Ieee Go.RowKit

theorem mulF {x y c e : Nat} (hx : absF x < 2139095040) (hy : absF y < 2139095040) {U : Nat} (hU : U = 149) (hc : c ≤ 2139095040) (h1 : VF c * 2 ^ U ≤ VF (absF x) * VF (absF y)) (h2 : VF (absF x) * VF (absF y) ≤ VF e * 2 ^ U) :
    ∃ r, floatBits .mul .f32 x y = some r ∧ c ≤ absF r ∧ absF r ≤ e ∧ sgnF r = (sgnF x ^^ sgnF y) := by
  obtain ⟨w1, w2, w3⟩ := nearest_wordF (sgnF x ^^ sgnF y) (manF (absF x) * manF (absF y)) ((-149 + (plcF (absF x) : Int)) + (-149 + (plcF (absF y) : Int)))
  have hv : manF (absF x) * manF (absF y) * 2 ^ (plcF (absF x) + plcF (absF y)) = VF (absF x) * VF (absF y) := by
    unfold VF
    rw [Nat.pow_add]
    simp only [Nat.mul_assoc, Nat.mul_left_comm]
  refine ⟨single.nearest (sgnF x ^^ sgnF y) (manF (absF x) * manF (absF y)) ((-149 + (plcF (absF x) : Int)) + (-149 + (plcF (absF y) : Int))), ?_, ?_, ?_, ?_⟩
  · show (((single.read x).product (single.read y)).map single.write) = _
    rw [readF hx, readF hy]
    rfl
  · rw [w1]
    exact nearest_geF (S := U) (E := plcF (absF x) + plcF (absF y)) hc (by omega) (by rw [hv]; exact h1)
  · rw [w1]
    exact nearest_leF (S := U) (E := plcF (absF x) + plcF (absF y)) (by omega) (by rw [hv]; exact h2)
  · rw [w2]
    exact sgn_wordF w3
theorem VF_half {U : Nat} (hU : U = 149) : VF 1056964608 * 2 = 2 ^ U := by rw [hU]; decide +kernel
theorem Bd.half {h : Int} {o : Option Nat} (q : Bd (2 * h) (2 * h) o) (hs : h.natAbs < 8388608) : Bd h h (fop .mul .f32 (some 1056964608) o) := by
  obtain ⟨x, rfl, fx, x1, x2⟩ := q
  obtain ⟨U, hU⟩ : ∃ U, U = 149 := ⟨_, rfl⟩
  have vh := VF_half hU
  obtain ⟨c1, c2⟩ := gW_val (b := h) (by omega)
  have hxv : valF x = 2 * valF (gW h) := by rw [c2, ← Int.mul_assoc]; omega
  have habs : VF (absF x) = 2 * VF (absF (gW h)) := by
    unfold valF at hxv
    split at hxv <;> split at hxv <;> omega
  have hm : VF (absF 1056964608) * VF (absF x) = VF (absF (gW h)) * 2 ^ U := by
    rw [show absF 1056964608 = 1056964608 by decide, habs, ← Nat.mul_assoc, vh, Nat.mul_comm]
  obtain ⟨r, hr, r1, r2, r3⟩ := mulF (x := 1056964608) (y := x) (c := absF (gW h)) (e := absF (gW h)) (by decide) fx hU (by omega) (Nat.le_of_eq hm.symm) (Nat.le_of_eq hm)
  have ra : absF r = absF (gW h) := by omega
  rw [show sgnF 1056964608 = false by decide, Bool.false_xor] at r3
  have hv : valF r = valF (gW h) := by
    have e1 : valF r = if sgnF x then -(VF (absF (gW h)) : Int) else (VF (absF (gW h)) : Int) := by unfold valF; rw [ra, r3]
    rw [e1]
    unfold valF at hxv
    unfold valF
    split at hxv <;> split at hxv <;> simp_all <;> omega
  exact ⟨r, hr, by omega, by rw [hv, c2]; omega, by rw [hv, c2]; omega⟩
/-- a gain of exact numbers -/
def gsum (sends : List Bool) (v : Nat → Int) : Nat → Int
  | 0 => 0
  | j + 1 => gsum sends v j + (if sends.getD j false then v j else -v j)
theorem gsum_bd {sends : List Bool} {v : Nat → Int} {B : Int} : ∀ k : Nat, (∀ j, j < k → -B ≤ v j ∧ v j ≤ B) → -(B * (k : Int)) ≤ gsum sends v k ∧ gsum sends v k ≤ B * (k : Int)
  | 0, _ => by show -(B * (0 : Int)) ≤ 0 ∧ (0 : Int) ≤ B * 0; omega
  | k + 1, h => by
    have h1 := gsum_bd (sends := sends) k fun j hj => h j (by omega)
    have h2 := h k (by omega)
    unfold gsum
    push_cast
    rw [Int.mul_add]
    split <;> omega
theorem gsum_two {sends : List Bool} {v : Nat → Int} : ∀ k, gsum sends (fun j => 2 * v j) k = 2 * gsum sends v k
  | 0 => rfl
  | k + 1 => by
    unfold gsum
    rw [gsum_two k]
    split <;> omega
theorem gain_exact {sends : List Bool} {part : List Nat} {v : Nat → Int} {g : Int} {o : Option Nat} (hg : Bd g g o) (hgs : g.natAbs < 1048576) : ∀ k : Nat, k ≤ 4 → (∀ j, j < k → Bd (v j) (v j) (fl .f32 (part.getD j 0)) ∧ -512 ≤ v j ∧ v j ≤ 512) → Bd (g + gsum sends v k) (g + gsum sends v k) (gainO o sends part k)
  | 0, _, _ => by
    show Bd (g + 0) (g + 0) o
    rw [Int.add_zero]
    exact hg
  | k + 1, hk, h => by
    have h1 := gain_exact hg hgs (sends := sends) k (by omega) fun j hj => h j (by omega)
    have h2 := gsum_bd (sends := sends) (v := v) (B := 512) k fun j hj => (h j (by omega)).2
    obtain ⟨h3, h4, h5⟩ := h k (by omega)
    show Bd (g + (gsum sends v k + _)) (g + (gsum sends v k + _)) (fop (if sends.getD k false then .add else .sub) .f32 (gainO o sends part k) (fl .f32 (part.getD k 0)))
    cases hc : sends.getD k false with
    | true =>
      rw [if_pos rfl, if_pos rfl]
      have := h1.add h3 (by omega) (by omega)
      rw [Int.add_assoc] at this
      exact this
    | false =>
      rw [if_neg (by simp), if_neg (by simp)]
      have := h1.sub h3 (by omega) (by omega)
      rw [show g + gsum sends v k - v k = g + (gsum sends v k + -v k) by omega] at this
      exact this
theorem gsum_all {sends : List Bool} {v : Nat → Int} {B : Int} : ∀ k : Nat, (∀ j, j < k → v j = if sends.getD j false then B else -B) → gsum sends v k = B * (k : Int)
  | 0, _ => by show (0 : Int) = B * 0; omega
  | k + 1, h => by
    unfold gsum
    rw [gsum_all k fun j hj => h j (by omega), h k (by omega)]
    push_cast
    rw [Int.mul_add]
    split <;> omega
theorem gsum_miss {sends : List Bool} {v : Nat → Int} {B : Int} (hB : 0 ≤ B) : ∀ k : Nat, (∀ j, j < k → -B ≤ v j ∧ v j ≤ B) → ∀ i, i < k → (v i = if sends.getD i false then -B else B) → gsum sends v k ≤ B * (k : Int) - 2 * B
  | 0, _, i, hi, _ => absurd hi (Nat.not_lt_zero _)
  | k + 1, h, i, hi, he => by
    have h2 := h k (by omega)
    unfold gsum
    push_cast
    rw [Int.mul_add]
    by_cases e : i = k
    · subst e
      have h1 := gsum_bd (sends := sends) i fun j hj => h j (by omega)
      rw [he]
      split <;> omega
    · have h1 := gsum_miss hB k (fun j hj => h j (by omega)) i (by omega) he
      split <;> omega
/-! ### what is sent -/
theorem stI_stG (M : Nat) (bs : List Bool) : ∀ t, stI M bs t = (stG M 0 (fun t => bs.getD t false) 0 t : Int)
  | 0 => rfl
  | t + 1 => by
    show (2 * stI M bs t + bitI (bs.getD t false)) % 2 ^ M = ((toS M (stG M 0 (fun t => bs.getD t false) 0 t) (bs.getD (0 + t) false) : Nat) : Int)
    rw [stI_stG M bs t, Nat.zero_add, toS_nat]
    have e : bitI (bs.getD t false) = ((bN1 (bs.getD t false) : Nat) : Int) := by cases bs.getD t false <;> rfl
    rw [e]
    push_cast
    rfl
theorem outR_get {M : Nat} {ms : List Int} {bs : List Bool} : ∀ K t j, t < K → j < ms.length → (outR M ms bs K).getD (t * ms.length + j) false = (sentL ms (2 * (stG M 0 (fun t => bs.getD t false) 0 t : Int) + bitI (bs.getD t false))).getD j false
  | 0, t, _, h, _ => absurd h (Nat.not_lt_zero _)
  | K + 1, t, j, h, hj => by
    have hl := outR_len M ms bs K
    show (outR M ms bs K ++ sentL ms (2 * stI M bs K + bitI (bs.getD K false))).getD (t * ms.length + j) false = _
    by_cases e : t < K
    · have h2 : t * ms.length + j < (outR M ms bs K).length := by
        rw [hl]
        have : (t + 1) * ms.length ≤ K * ms.length := Nat.mul_le_mul_right _ e
        rw [Nat.succ_mul] at this
        omega
      rw [show (outR M ms bs K ++ sentL ms (2 * stI M bs K + bitI (bs.getD K false))).getD (t * ms.length + j) false = (outR M ms bs K).getD (t * ms.length + j) false by simp only [List.getD, List.getElem?_append_left h2]]
      exact outR_get K t j e hj
    · obtain rfl : t = K := by omega
      rw [show (outR M ms bs t ++ sentL ms (2 * stI M bs t + bitI (bs.getD t false))).getD (t * ms.length + j) false = (sentL ms (2 * stI M bs t + bitI (bs.getD t false))).getD j false by
        simp only [List.getD]
        rw [List.getElem?_append_right (by rw [hl]; omega), hl, Nat.add_sub_cancel_left], stI_stG]
/-- a path's sends -/
def sndF (M : Nat) (ms : List Int) (c : Nat → Bool) (t : Nat) : List Bool := sentL ms (2 * (stG M 0 c 0 t : Int) + bitI (c t))
theorem sentL_reg {M : Nat} {ms : List Int} {c : Nat → Bool} {t : Nat} : sndF M ms c t = sentL ms ((regN M c t : Nat) : Int) := by
  unfold sndF regN
  have e : bitI (c t) = ((bN1 (c t) : Nat) : Int) := by cases c t <;> rfl
  rw [e]
  push_cast
  rfl
theorem snd_differ {M i : Nat} {ms : List Int} {c d : Nat → Bool} (hM : M ≤ 3) (h1 : 1 ≤ ms.length) (hms : ∀ x ∈ ms, 1 ≤ x ∧ x < 2 ^ (M + 1)) (hne : c i ≠ d i) : ∃ t, t ≤ i + M ∧ (sndF M ms c t).getD 0 false ≠ (sndF M ms d t).getD 0 false := by
  match ms, h1, hms with
  | x :: xs, _, hms =>
    obtain ⟨x1, x2⟩ := hms x (List.mem_cons_self ..)
    obtain ⟨m, hm⟩ : ∃ m : Nat, x = (m : Int) := ⟨x.toNat, by omega⟩
    subst hm
    have e3 : ((2 : Int) ^ (M + 1)) = ((2 ^ (M + 1) : Nat) : Int) := by push_cast; rfl
    rw [e3] at x2
    obtain ⟨t, ht, hd⟩ := sent_differ (M := M) (i := i) (m := m) hM (by omega) (by omega) hne
    refine ⟨t, ht, ?_⟩
    rw [sentL_reg, sentL_reg]
    exact hd

end Go.Proofs.Ytopeidmafalklaa


namespace Go.Proofs.Ytopeidmafalklaa
open Ieee Go.RowKit

theorem met_all {M s0 p : Nat} {iv : Nat → Nat → Bool → Int} {c : Nat → Bool} {K : Int} : ∀ j : Nat, (∀ i, i < j → iv (p + i) (stG M s0 c p i) (c (p + i)) = K) → met M iv s0 c p j = K * (j : Int)
  | 0, _ => by show (0 : Int) = K * 0; omega
  | j + 1, h => by
    rw [met_succ, met_all j fun i hi => h i (by omega), h j (by omega)]
    push_cast
    rw [Int.mul_add]
    omega
theorem met_least {M s0 p : Nat} {iv : Nat → Nat → Bool → Int} {c : Nat → Bool} {K : Int} : ∀ j : Nat, (∀ i, i < j → iv (p + i) (stG M s0 c p i) (c (p + i)) ≤ K) → met M iv s0 c p j ≤ K * (j : Int)
  | 0, _ => by show (0 : Int) ≤ K * 0; omega
  | j + 1, h => by
    have h1 := met_least j fun i hi => h i (by omega)
    have h2 := h j (by omega)
    rw [met_succ]
    push_cast
    rw [Int.mul_add]
    omega
theorem met_miss {M s0 p : Nat} {iv : Nat → Nat → Bool → Int} {c : Nat → Bool} {K D : Int} : ∀ j : Nat, (∀ i, i < j → iv (p + i) (stG M s0 c p i) (c (p + i)) ≤ K) → ∀ i, i < j → iv (p + i) (stG M s0 c p i) (c (p + i)) ≤ K - D → met M iv s0 c p j ≤ K * (j : Int) - D
  | 0, _, i, hi, _ => absurd hi (Nat.not_lt_zero _)
  | j + 1, h, i, hi, he => by
    have h2 := h j (by omega)
    rw [met_succ]
    push_cast
    rw [Int.mul_add]
    by_cases e : i = j
    · subst e
      have h1 := met_least i fun i hi => h i (by omega)
      omega
    · have h1 := met_miss j (fun i hi => h i (by omega)) i (by omega) he
      omega
/-- a coder that is drawn, and a few bits -/
structure Cd (M n : Nat) (ms : List Int) (bs : List Bool) : Prop where
  m1 : 1 ≤ M
  m3 : M ≤ 3
  n5 : n ≤ 5
  len : bs.length = n
  k1 : 1 ≤ ms.length
  k3 : ms.length ≤ 3
  rng : ∀ x ∈ ms, 1 ≤ x ∧ x < 2 ^ (M + 1)
def cP (bs : List Bool) (t : Nat) : Bool := bs.getD t false
theorem cP_leg {bs : List Bool} {n : Nat} (h : bs.length = n) : Leg n (cP bs) := fun t ht => by
  unfold cP
  simp [List.getD, show bs.length ≤ t by omega]
def snt (M n : Nat) (ms : List Int) (bs : List Bool) : List Bool := outR M ms bs (n + M)
def soft8 (M n : Nat) (ms : List Int) (bs : List Bool) : List Nat := (snt M n ms bs).map (softSign 1090519040)
/-- the true sends as signed numbers -/
def sv (M n : Nat) (ms : List Int) (bs : List Bool) (B : Int) (i : Nat) : Int := if (snt M n ms bs).getD i false then B else -B
theorem snt_len (M n : Nat) (ms : List Int) (bs : List Bool) : (snt M n ms bs).length = (n + M) * ms.length := outR_len ..
theorem in_len {k t j N : Nat} (ht : t < N) (hj : j < k) : t * k + j < N * k := by
  have : (t + 1) * k ≤ N * k := Nat.mul_le_mul_right _ ht
  rw [Nat.succ_mul] at this
  omega
theorem bd_8 (b : Bool) : Bd (if b then 512 else -512) (if b then 512 else -512) (fl .f32 (softSign 1090519040 b)) := by
  have h1 : gW 512 = 1090519040 := by decide +kernel
  have h2 : gW (-512) = Op.negFloat .f32 1090519040 := by decide +kernel
  cases b
  · have := Bd.word (b := -512) (by decide)
    rw [h2] at this
    rw [if_neg (by simp)]
    have e : fl .f32 (softSign 1090519040 false) = some (Op.negFloat .f32 1090519040) := by decide +kernel
    rw [e]
    exact this
  · have := Bd.word (b := 512) (by decide)
    rw [h1] at this
    rw [if_pos rfl]
    have e : fl .f32 (softSign 1090519040 true) = some 1090519040 := by decide +kernel
    rw [e]
    exact this
variable {M n : Nat} {ms : List Int} {bs : List Bool}
theorem soft8_at {t j : Nat} (ht : t < n + M) (hj : j < ms.length) : Bd (sv M n ms bs 512 (t * ms.length + j)) (sv M n ms bs 512 (t * ms.length + j)) (fl .f32 ((partL ms.length (soft8 M n ms bs) t).getD j 0)) := by
  have hi := in_len (k := ms.length) ht hj
  rw [← snt_len M n ms bs] at hi
  rw [partL_get hj]
  unfold soft8 sv
  have e : ((snt M n ms bs).map (softSign 1090519040)).getD (t * ms.length + j) 0 = softSign 1090519040 ((snt M n ms bs).getD (t * ms.length + j) false) := by
    simp [List.getD, hi]
  rw [e]
  exact bd_8 _
theorem sv_two (i : Nat) : sv M n ms bs 512 i = 2 * sv M n ms bs 256 i := by
  unfold sv
  split <;> omega
theorem sv_bd {B : Int} (hB : 0 ≤ B) (i : Nat) : -B ≤ sv M n ms bs B i ∧ sv M n ms bs B i ≤ B := by
  unfold sv
  split <;> omega
def iv8 (M n : Nat) (ms : List Int) (bs : List Bool) (B : Int) (t s : Nat) (b : Bool) : Int := gsum (sentL ms (2 * (s : Int) + bitI b)) (fun j => sv M n ms bs B (t * ms.length + j)) ms.length
theorem hw8 (H : Cd M n ms bs) : HW M n ms (soft8 M n ms bs) (iv8 M n ms bs 256) := by
  have hk := H.k3
  refine ⟨H.m3, H.n5, fun t s b ht hs => ?_, fun t s b ht hs => ?_⟩
  · have h0 : Bd 0 0 (some 0) := Bd.word (b := 0) (by decide)
    have h1 := gain_exact (sends := sentL ms (2 * (s : Int) + bitI b)) (part := partL ms.length (soft8 M n ms bs) t) (v := fun j => 2 * sv M n ms bs 256 (t * ms.length + j)) h0 (by decide) ms.length (by omega) fun j hj => by
      have h2 := soft8_at (M := M) (n := n) (ms := ms) (bs := bs) ht hj
      rw [sv_two] at h2
      have h3 := sv_bd (M := M) (n := n) (ms := ms) (bs := bs) (B := 256) (by decide) (t * ms.length + j)
      exact ⟨h2, by omega, by omega⟩
    rw [Int.zero_add, gsum_two] at h1
    have hb := gsum_bd (sends := sentL ms (2 * (s : Int) + bitI b)) (v := fun j => sv M n ms bs 256 (t * ms.length + j)) (B := 256) ms.length fun j _ => sv_bd (by decide) _
    exact h1.half (by omega)
  · have hb := gsum_bd (sends := sentL ms (2 * (s : Int) + bitI b)) (v := fun j => sv M n ms bs 256 (t * ms.length + j)) (B := 256) ms.length fun j _ => sv_bd (by decide) _
    unfold iv8
    omega
/-- the true path's metric -/
theorem met_true (B : Int) : met M (iv8 M n ms bs B) 0 (cP bs) 0 (n + M) = B * (ms.length : Int) * ((n + M : Nat) : Int) := by
  refine met_all _ fun i hi => ?_
  rw [Nat.zero_add]
  unfold iv8
  refine gsum_all _ fun j hj => ?_
  unfold sv snt
  rw [outR_get _ _ _ hi hj]
  rfl
theorem met_other (H : Cd M n ms bs) {B : Int} (hB : 0 ≤ B) {d : Nat → Bool} {i : Nat} (hi : i < n) (hne : d i ≠ cP bs i) : met M (iv8 M n ms bs B) 0 d 0 (n + M) ≤ B * (ms.length : Int) * ((n + M : Nat) : Int) - 2 * B := by
  have hk1 := H.k1
  obtain ⟨t, ht, hd⟩ := snd_differ (M := M) (i := i) (ms := ms) (c := d) (d := cP bs) H.m3 H.k1 H.rng hne
  refine met_miss _ (fun j hj => ?_) t (by omega) ?_
  · unfold iv8
    exact (gsum_bd _ fun j _ => sv_bd hB _).2
  · rw [Nat.zero_add]
    unfold iv8
    refine gsum_miss hB _ (fun j _ => sv_bd hB _) 0 (by omega) ?_
    unfold sv snt
    rw [outR_get _ _ _ (by omega) (by omega)]
    have e1 : (sentL ms (2 * (stG M 0 (fun t => bs.getD t false) 0 t : Int) + bitI (bs.getD t false))).getD 0 false = (sndF M ms (cP bs) t).getD 0 false := rfl
    have e2 : (sentL ms (2 * (stG M 0 d 0 t : Int) + bitI (d t))).getD 0 false = (sndF M ms d t).getD 0 false := rfl
    rw [e1, e2]
    revert hd
    cases (sndF M ms d t).getD 0 false <;> cases (sndF M ms (cP bs) t).getD 0 false <;> simp
theorem fin_bd {l h : Int} {o : Option Nat} (q : Bd l h o) : finB o = true := by
  obtain ⟨x, rfl, fx, -, -⟩ := q
  have ho := oppF_val x
  have v0 : valF 0 = 0 := by decide +kernel
  obtain ⟨r, hr, fr, r1, r2, -⟩ := addF (x := x) (y := oppF x) (c := 0) (e := 0) fx (by rw [(oppF_parts x).1]; exact fx) (by decide) (by decide) (by omega) (by omega)
  have hs : fop .sub .f32 (some x) (some x) = some r := by
    show floatBits .sub .f32 x x = some r
    rw [sub_oppF fx]
    exact hr
  unfold finB
  rw [hs]
  show (single.order r 0 == some Ordering.eq) = true
  rw [order_valF fr (by decide), show valF r = valF 0 by omega]
  rw [show compare (valF 0) (valF 0) = Ordering.eq by rw [v0]; rfl]
  rfl
theorem gt_pos {x : Nat} (h : absF x < 2139095040) : (single.order x 0 == some Ordering.gt) = decide (0 < valF x) := by
  rw [order_valF h (by decide), show valF 0 = 0 by decide +kernel]
  exact cmp_gtB _ _
theorem soft8_len : (soft8 M n ms bs).length = (n + M) * ms.length := by unfold soft8; rw [List.length_map, snt_len]
theorem soft8_ok (H : Cd M n ms bs) (hvc : validCoderB (M : Int) ms = true) : sentOk (M : Int) ms (soft8 M n ms bs) = true ∧ sentN (M : Int) ms (soft8 M n ms bs) = (n : Int) := by
  have hk1 := H.k1
  have hk3 := H.k3
  have hm3 := H.m3
  have hn5 := H.n5
  have hlen := soft8_len (M := M) (n := n) (ms := ms) (bs := bs)
  have hN : sentN (M : Int) ms (soft8 M n ms bs) = (n : Int) := by
    unfold sentN
    rw [hlen, Nat.mul_div_cancel _ (by omega)]
    push_cast
    omega
  refine ⟨?_, hN⟩
  have h160 : (n + M) * ms.length ≤ 8 * 3 := Nat.mul_le_mul (by omega) hk3
  have hsoft : softB (soft8 M n ms bs) = true := by
    unfold softB
    rw [hlen, decide_eq_true (by omega), Bool.true_and, List.all_eq_true]
    intro x hx
    unfold soft8 at hx
    obtain ⟨b, -, rfl⟩ := List.mem_map.1 hx
    exact fin_bd (bd_8 b)
  unfold sentOk sentB
  rw [hN, hvc, hsoft, hlen, Nat.mul_mod_left]
  simp only [Bool.and_self, Bool.true_and, Bool.and_eq_true, decide_eq_true_eq, beq_self_eq_true]
  omega
/-- all ways tell the bits that were sent -/
theorem all_8 (H : Cd M n ms bs) (hvc : validCoderB (M : Int) ms = true) : allOk (M : Int) ms (soft8 M n ms bs) = true ∧ (allR (M : Int) ms (soft8 M n ms bs)).length = n ∧ ∀ i, i < n → (FloatKind.f32.format.order ((allR (M : Int) ms (soft8 M n ms bs)).getD i 0) 0 == some Ordering.gt) = bs.getD i false := by
  obtain ⟨hs, hN⟩ := soft8_ok H hvc
  obtain ⟨l, h1, h2, h3⟩ := outs (hw8 H) (cP_leg H.len) (fun i d hi hd hne => by
    rw [met_true]
    have := met_other H (B := 256) (by decide) hi hne
    omega) n (Nat.le_refl _)
  obtain ⟨h4, h5⟩ := all_some hs hN h1
  have hfin : l.all finB = true := by
    rw [List.all_eq_true]
    intro x hx
    obtain ⟨i, hi, rfl⟩ := List.mem_iff_getElem.1 hx
    have h6 := h3 i (by omega)
    have e : l.getD i none = l[i] := by simp [List.getD, hi]
    rw [e] at h6
    split at h6
    · exact fin_bd h6
    · exact fin_bd h6
  have h7 := h5 hfin
  refine ⟨by rw [h4, hfin], ?_, fun i hi => ?_⟩
  · unfold allR
    rw [h7, List.length_map, h2]
  · unfold allR
    rw [h7]
    have h6 := h3 i hi
    have e : ((l.map fun o => o.getD 0).getD i 0) = (l.getD i none).getD 0 := by
      have hi2 : i < l.length := by omega
      simp [List.getD, hi2]
    rw [e]
    have ec : cP bs i = bs.getD i false := rfl
    rw [ec] at h6
    cases hb : bs.getD i false with
    | true =>
      rw [hb, if_pos rfl] at h6
      obtain ⟨x, ex, fx, x1, x2⟩ := h6
      rw [ex]
      show (single.order x 0 == some Ordering.gt) = true
      rw [gt_pos fx]
      have := gG_pos
      exact decide_eq_true (by omega)
    | false =>
      rw [hb, if_neg (by simp)] at h6
      obtain ⟨x, ex, fx, x1, x2⟩ := h6
      rw [ex]
      show (single.order x 0 == some Ordering.gt) = false
      rw [gt_pos fx]
      have := gG_pos
      exact decide_eq_false (by omega)

end Go.Proofs.Ytopeidmafalklaa


namespace Go.Proofs.Ytopeidmafalklaa
open Ieee Go.RowKit

theorem met_bdB {M s0 p : Nat} {iv : Nat → Nat → Bool → Int} {c : Nat → Bool} {B : Int} (h0 : s0 < 2 ^ M) : ∀ j : Nat, (∀ i s b, i < j → s < 2 ^ M → -B ≤ iv (p + i) s b ∧ iv (p + i) s b ≤ B) → -(B * (j : Int)) ≤ met M iv s0 c p j ∧ met M iv s0 c p j ≤ B * (j : Int)
  | 0, _ => by show -(B * (0 : Int)) ≤ 0 ∧ (0 : Int) ≤ B * 0; omega
  | j + 1, h => by
    have h1 := met_bdB h0 (c := c) j fun i s b hi hs => h i s b (by omega) hs
    have h2 := h j (stG M s0 c p j) (c (p + j)) (by omega) (stG_lt h0 j)
    rw [met_succ]
    push_cast
    rw [Int.mul_add]
    omega
theorem gtO_val {a b : Int} {x y : Option Nat} (q : Bd a a x) (q2 : Bd b b y) : gtO x y = decide (b < a) := by
  obtain ⟨u, rfl, fu, u1, u2⟩ := q
  obtain ⟨v, rfl, fv, v1, v2⟩ := q2
  show (single.order u v == some Ordering.gt) = _
  rw [order_valF fu fv, cmp_gtB, show valF u = a * (gG : Int) by omega, show valF v = b * (gG : Int) by omega]
  refine decide_eq_decide.2 ⟨g_lt, fun h => ?_⟩
  exact Int.mul_lt_mul_of_pos_right h (by have := gG_pos; omega)
/-- what is known of a coder's gains: 64ths -/
structure GW (M n : Nat) (ms : List Int) (soft : List Nat) (iv : Nat → Nat → Bool → Int) : Prop where
  m1 : 1 ≤ M
  m3 : M ≤ 3
  n5 : n ≤ 5
  val : ∀ t s b g o, t < n + M → s < 2 ^ M → Bd g g o → g.natAbs < 1048576 → Bd (g + iv t s b) (g + iv t s b) (gainO o (sentL ms (2 * (s : Int) + bitI b)) (partL ms.length soft t) ms.length)
  bd : ∀ t s b, t < n + M → s < 2 ^ M → -2048 ≤ iv t s b ∧ iv t s b ≤ 2048
variable {M n : Nat} {ms : List Int} {soft : List Nat} {iv : Nat → Nat → Bool → Int}
/-- the states read back from a place on -/
def trS (M : Nat) (ms : List Int) (soft : List Nat) (n t s : Nat) : Nat → Nat
  | 0 => s
  | j + 1 => ((tabT M ms soft n (t - j)).f.getD (trS M ms soft n t s j) 0).toNat
theorem trS_front {t s p : Nat} (h : (tabT M ms soft n (t + 1)).f.getD s 0 = (p : Int)) : ∀ j, trS M ms soft n (t + 1) s (j + 1) = trS M ms soft n t p j
  | 0 => by
    show ((tabT M ms soft n (t + 1 - 0)).f.getD s 0).toNat = p
    rw [Nat.sub_zero, h, Int.toNat_natCast]
  | j + 1 => by
    show ((tabT M ms soft n (t + 1 - (j + 1))).f.getD (trS M ms soft n (t + 1) s (j + 1)) 0).toNat = ((tabT M ms soft n (t - j)).f.getD (trS M ms soft n t p j) 0).toNat
    rw [trS_front h j, show t + 1 - (j + 1) = t - j by omega]
def TA (M n : Nat) (ms : List Int) (soft : List Nat) (iv : Nat → Nat → Bool → Int) (t : Nat) : Prop :=
  (∀ c, Leg n c → (tabT M ms soft n t).h.getD (stG M 0 c 0 t) false = true) ∧
  ∀ s, s < 2 ^ M → (tabT M ms soft n t).h.getD s false = true → ∃ V c, Bd V V ((tabT M ms soft n t).g.getD s none) ∧ (∀ d, Leg n d → stG M 0 d 0 t = s → met M iv 0 d 0 t ≤ V) ∧ Leg n c ∧ stG M 0 c 0 t = s ∧ met M iv 0 c 0 t = V ∧ ∀ i, i < t → c i = (trS M ms soft n t s (t - 1 - i) % 2 == 1)
def RI (M n : Nat) (ms : List Int) (soft : List Nat) (iv : Nat → Nat → Bool → Int) (t : Nat) (T : Tb) (Pd : Nat → Bool → Prop) : Prop :=
  Sz (2 ^ M) T ∧ (∀ c, Leg n c → Pd (stG M 0 c 0 t) (c t) → T.h.getD (stG M 0 c 0 (t + 1)) false = true) ∧
  ∀ s, s < 2 ^ M → T.h.getD s false = true → ∃ V c, Bd V V (T.g.getD s none) ∧ (∀ d, Leg n d → Pd (stG M 0 d 0 t) (d t) → stG M 0 d 0 (t + 1) = s → met M iv 0 d 0 (t + 1) ≤ V) ∧ Leg n c ∧ stG M 0 c 0 (t + 1) = s ∧ met M iv 0 c 0 (t + 1) = V ∧
    T.f.getD s 0 = ((stG M 0 c 0 t : Nat) : Int) ∧ ∀ i, i < t → c i = (trS M ms soft n t (stG M 0 c 0 t) (t - 1 - i) % 2 == 1)
theorem RI.mono {t : Nat} {T : Tb} {Pd Pd2 : Nat → Bool → Prop} (h : RI M n ms soft iv t T Pd) (hp : ∀ c, Leg n c → Pd2 (stG M 0 c 0 t) (c t) → Pd (stG M 0 c 0 t) (c t)) : RI M n ms soft iv t T Pd2 := by
  obtain ⟨h1, h2, h3⟩ := h
  refine ⟨h1, fun c hc hpc => h2 c hc (hp c hc hpc), fun s hs hh => ?_⟩
  obtain ⟨V, c, k1, k2, k3⟩ := h3 s hs hh
  exact ⟨V, c, k1, fun d hd hpd => k2 d hd (hp d hd hpd), k3⟩
theorem RI.edge (H : GW M n ms soft iv) {t : Nat} (ht : t < n + M) (hA : TA M n ms soft iv t) {T : Tb} {Pd : Nat → Bool → Prop} (h : RI M n ms soft iv t T Pd) {s : Nat} (hs : s < 2 ^ M) (b : Bool) :
    RI M n ms soft iv t (edgeT M ms (partL ms.length soft t) (decide (n ≤ t)) (tabT M ms soft n t) s b T) (fun s1 b1 => Pd s1 b1 ∨ (s1 = s ∧ b1 = b)) := by
  have hn5 := H.n5
  have hm3 := H.m3
  obtain ⟨hA1, hA2⟩ := hA
  by_cases hh : ((tabT M ms soft n t).h.getD s false && !(b && decide (n ≤ t))) = true
  · have hsz := sz_edge (M := M) (ms := ms) (part := partL ms.length soft t) (last := decide (n ≤ t)) (T0 := tabT M ms soft n t) h.1 hs b
    unfold edgeT at hsz ⊢
    rw [if_pos hh] at hsz ⊢
    simp only [Bool.and_eq_true, Bool.not_eq_true', Bool.and_eq_false_iff, decide_eq_false_iff_not] at hh
    obtain ⟨hh1, hh2⟩ := hh
    have hb : n ≤ t → b = false := fun q => by
      rcases hh2 with e | e
      · exact e
      · exact absurd q e
    obtain ⟨V0, c0, v1, v2, v3, v4, v5, v6⟩ := hA2 s hs hh1
    obtain ⟨c', e1, e2, e3, e4, e5⟩ := path_ext (M := M) (iv := iv) v3 hb (t := t)
    have e6 : stG M 0 c' 0 t = s := by
      rw [← v4]
      exact stG_congr fun i hi => by rw [Nat.zero_add]; exact e4 i hi
    rw [v4] at e2 e3
    rw [v5] at e3
    have hV0 := met_bdB (M := M) (iv := iv) (c := c0) (p := 0) (B := 2048) (Nat.pow_pos (a := 2) (by decide)) t fun i s b hi hs => by rw [Nat.zero_add]; exact H.bd i s b (by omega) hs
    rw [v5] at hV0
    have hx := H.val t s b V0 _ ht hs v1 (by omega)
    have hto : toS M s b < 2 ^ M := toS_lt b
    obtain ⟨z1, z2, z3, -⟩ := h.1
    have hnew : ∀ d, Leg n d → stG M 0 d 0 t = s → d t = b → met M iv 0 d 0 (t + 1) ≤ V0 + iv t s b := fun d hd hds hdb => by
      have := v2 d hd hds
      rw [met_succ, Nat.zero_add, hds, hdb]
      omega
    have hst : ∀ d, stG M 0 d 0 t = s → d t = b → stG M 0 d 0 (t + 1) = toS M s b := fun d hds hdb => by rw [stG_succ, Nat.zero_add, hds, hdb]
    have hx : Bd (V0 + iv t s b) (V0 + iv t s b) (edgeX ms (partL ms.length soft t) (tabT M ms soft n t) s b) := hx
    obtain ⟨x, ex⟩ : ∃ x, edgeX ms (partL ms.length soft t) (tabT M ms soft n t) s b = x := ⟨_, rfl⟩
    rw [ex] at hx hsz ⊢
    unfold updT at hsz ⊢
    cases hbet : betT T (toS M s b) x with
    | true =>
      rw [hbet, if_pos rfl] at hsz
      rw [if_pos rfl]
      have hold : ∀ d, Leg n d → Pd (stG M 0 d 0 t) (d t) → stG M 0 d 0 (t + 1) = toS M s b → met M iv 0 d 0 (t + 1) ≤ V0 + iv t s b := fun d hd hpd hds => by
        have k1 := h.2.1 d hd hpd
        rw [hds] at k1
        obtain ⟨V, c, k2, k3, -⟩ := h.2.2 _ hto k1
        have k4 := k3 d hd hpd hds
        unfold betT at hbet
        rw [k1, Bool.not_true, Bool.false_or, gtO_val hx k2, decide_eq_true_eq] at hbet
        omega
      refine ⟨hsz, fun c hc hpc => ?_, fun s' hs' hh' => ?_⟩
      · dsimp only
        rw [getD_set (by rw [z1]; exact hto)]
        split
        · rfl
        · rename_i hne
          rcases hpc with q | ⟨q1, q2⟩
          · exact h.2.1 c hc q
          · exact absurd (hst c q1 q2).symm hne
      · dsimp only at hh' ⊢
        rw [getD_set (by rw [z1]; exact hto)] at hh'
        rw [getD_set (by rw [z2]; exact hto), getD_set (by rw [z3]; exact hto)]
        by_cases e : toS M s b = s'
        · rw [if_pos e, if_pos e]
          subst e
          refine ⟨V0 + iv t s b, c', hx, fun d hd hpd hds => ?_, e1, e2, e3, by rw [e6], fun i hi => ?_⟩
          · rcases hpd with q | ⟨q1, q2⟩
            · exact hold d hd q hds
            · exact hnew d hd q1 q2
          · rw [e4 i hi, e6]
            exact v6 i hi
        · rw [if_neg e] at hh'
          rw [if_neg e, if_neg e]
          obtain ⟨V, c, k1, k2, k3⟩ := h.2.2 s' hs' hh'
          refine ⟨V, c, k1, fun d hd hpd hds => ?_, k3⟩
          rcases hpd with q | ⟨q1, q2⟩
          · exact k2 d hd q hds
          · exact absurd ((hst d q1 q2).symm.trans hds) e
    | false =>
      rw [if_neg (by simp)]
      unfold betT at hbet
      rw [Bool.or_eq_false_iff, Bool.not_eq_false'] at hbet
      obtain ⟨hb1, hb2⟩ := hbet
      refine ⟨h.1, fun c hc hpc => ?_, fun s' hs' hh' => ?_⟩
      · rcases hpc with q | ⟨q1, q2⟩
        · exact h.2.1 c hc q
        · rw [hst c q1 q2]; exact hb1
      · obtain ⟨V, c, k1, k2, k3⟩ := h.2.2 s' hs' hh'
        refine ⟨V, c, k1, fun d hd hpd hds => ?_, k3⟩
        rcases hpd with q | ⟨q1, q2⟩
        · exact k2 d hd q hds
        · have e : toS M s b = s' := (hst d q1 q2).symm.trans hds
          subst e
          rw [gtO_val hx k1, decide_eq_false_iff_not] at hb2
          have := hnew d hd q1 q2
          omega
  · unfold edgeT
    rw [if_neg hh]
    refine h.mono fun c hc hpc => ?_
    rcases hpc with q | ⟨q1, q2⟩
    · exact q
    · exfalso
      apply hh
      have k1 := hA1 c hc
      rw [q1] at k1
      rw [k1, Bool.true_and]
      cases hbb : b with
      | false => rfl
      | true =>
        rw [hbb] at q2
        have : ¬ n ≤ t := fun q => by rw [hc t q] at q2; exact nomatch q2
        rw [decide_eq_false this]
        rfl
theorem RI.row (H : GW M n ms soft iv) {t : Nat} (ht : t < n + M) (hA : TA M n ms soft iv t) : ∀ r, r ≤ 2 ^ M → RI M n ms soft iv t (rowT M ms (partL ms.length soft t) (decide (n ≤ t)) (tabT M ms soft n t) r) (fun s1 _ => s1 < r)
  | 0, _ => by
    refine ⟨sz_new (Nat.pow_pos (by decide)), fun c _ h => absurd h (Nat.not_lt_zero _), fun s hs hh => ?_⟩
    exfalso
    have : (newT (2 ^ M)).h.getD s false = false := by simp [newT, List.getD, hs]
    have hh : (newT (2 ^ M)).h.getD s false = true := hh
    rw [this] at hh
    exact nomatch hh
  | r + 1, hr => by
    have h1 := RI.edge H ht hA (RI.row H ht hA r (by omega)) (s := r) (by omega) false
    have h2 := RI.edge H ht hA h1 (s := r) (by omega) true
    refine RI.mono (Pd := fun s1 b1 => (s1 < r ∨ (s1 = r ∧ b1 = false)) ∨ (s1 = r ∧ b1 = true)) h2 fun c _ h => ?_
    by_cases e : stG M 0 c 0 t < r
    · exact .inl (.inl e)
    · have e2 : stG M 0 c 0 t = r := by omega
      cases hb : c t with
      | false => exact .inl (.inr ⟨e2, rfl⟩)
      | true => exact .inr ⟨e2, rfl⟩
theorem TA.tab (H : GW M n ms soft iv) : ∀ t, t ≤ n + M → TA M n ms soft iv t
  | 0, _ => by
    have hS : 0 < 2 ^ M := Nat.pow_pos (by decide)
    refine ⟨fun c _ => ?_, fun s hs hh => ?_⟩
    · show ((List.replicate (2 ^ M) false).set 0 true).getD 0 false = true
      rw [getD_set (by rw [List.length_replicate]; exact hS), if_pos rfl]
    · have hh : ((List.replicate (2 ^ M) false).set 0 true).getD s false = true := hh
      have hs0 : s = 0 := by
        rw [getD_set (by rw [List.length_replicate]; exact hS)] at hh
        split at hh
        · rename_i e; exact e.symm
        · simp [List.getD, hs] at hh
      subst hs0
      refine ⟨0, fun _ => false, ?_, fun _ _ _ => Int.le_refl _, fun _ _ => rfl, rfl, rfl, fun i hi => absurd hi (Nat.not_lt_zero _)⟩
      have e : (tabT M ms soft n 0).g.getD 0 none = some 0 := by
        show (List.replicate (2 ^ M) (some 0)).getD 0 none = some 0
        simp only [List.getD, List.getElem?_replicate, hS, ↓reduceIte, Option.getD_some]
      rw [e]
      exact Bd.word (b := 0) (by decide)
  | t + 1, ht => by
    obtain ⟨h1, h2, h3⟩ := RI.row H (by omega) (TA.tab H t (by omega)) (2 ^ M) (Nat.le_refl _)
    have hlt : ∀ c, stG M 0 c 0 t < 2 ^ M := fun c => stG_lt (Nat.pow_pos (by decide)) t
    refine ⟨fun c hc => h2 c hc (hlt c), fun s hs hh => ?_⟩
    obtain ⟨V, c, k1, k2, k3, k4, k5, k6, k7⟩ := h3 s hs hh
    refine ⟨V, c, k1, fun d hd hds => k2 d hd (hlt d) hds, k3, k4, k5, fun i hi => ?_⟩
    have hf : (tabT M ms soft n (t + 1)).f.getD s 0 = ((stG M 0 c 0 t : Nat) : Int) := k6
    by_cases e : i = t
    · subst e
      rw [show i + 1 - 1 - i = 0 by omega]
      show c i = (s % 2 == 1)
      rw [← k4, stG_succ, toS_nat, Nat.zero_add]
      have hm1 := H.m1
      have e2 : 2 ^ M = 2 * 2 ^ (M - 1) := by rw [← Nat.pow_succ']; congr 1; omega
      rw [e2, Nat.mod_mul_right_mod]
      cases c i <;> simp [bN1] <;> omega
    · rw [show t + 1 - 1 - i = (t - 1 - i) + 1 by omega, trS_front hf]
      exact k7 i (by omega)
theorem backS_trS : ∀ k, backS M ms soft n k = (trS M ms soft n (n + M) 0 k : Int)
  | 0 => rfl
  | k + 1 => by
    show (tabT M ms soft n (n + M - k)).f.getD (backS M ms soft n k).toNat 0 = (((tabT M ms soft n (n + M - k)).f.getD (trS M ms soft n (n + M) 0 k) 0).toNat : Int)
    rw [backS_trS k, Int.toNat_natCast]
    have := (sz_tab (M := M) (ms := ms) (soft := soft) (n := n) (n + M - k)).at_ (Nat.pow_pos (by decide)) (trS M ms soft n (n + M) 0 k)
    omega
/-- the best way -/
theorem best_ex (H : GW M n ms soft iv) : ∃ V c, Bd V V (wayGain M ms soft n) ∧ Leg n c ∧ met M iv 0 c 0 (n + M) = V ∧ (∀ d, Leg n d → met M iv 0 d 0 (n + M) ≤ V) ∧ (wayBits M ms soft n).length = n ∧ ∀ t, t < n → (wayBits M ms soft n).getD t false = c t := by
  have hm3 := H.m3
  have hm1 := H.m1
  obtain ⟨h1, h2⟩ := TA.tab H (n + M) (Nat.le_refl _)
  have h3 := h1 (fun _ => false) (fun _ _ => rfl)
  rw [st_end (fun _ _ => rfl) (by omega)] at h3
  obtain ⟨V, c, k1, k2, k3, k4, k5, k6⟩ := h2 0 (Nat.pow_pos (by decide)) h3
  refine ⟨V, c, k1, k3, k5, fun d hd => k2 d hd (st_end hd (by omega)), by simp [wayBits], fun t ht => ?_⟩
  rw [k6 t (by omega)]
  have e : (wayBits M ms soft n).getD t false = (backS M ms soft n (n + M - 1 - t) % 2 == 1) := by
    unfold wayBits
    simp [List.getD, ht]
  rw [e, backS_trS]
  rw [Bool.eq_iff_iff, beq_iff_eq, beq_iff_eq]
  omega

end Go.Proofs.Ytopeidmafalklaa


namespace Go.Proofs.Ytopeidmafalklaa
open Ieee Go.RowKit

variable {M n : Nat} {ms : List Int} {bs : List Bool}
theorem gw8 (H : Cd M n ms bs) : GW M n ms (soft8 M n ms bs) (iv8 M n ms bs 512) := by
  have hk := H.k3
  refine ⟨H.m1, H.m3, H.n5, fun t s b g o ht hs hg hgs => ?_, fun t s b ht hs => ?_⟩
  · exact gain_exact (v := fun j => sv M n ms bs 512 (t * ms.length + j)) hg hgs ms.length (by omega) fun j hj => ⟨soft8_at ht hj, sv_bd (by decide) _⟩
  · have hb := gsum_bd (sends := sentL ms (2 * (s : Int) + bitI b)) (v := fun j => sv M n ms bs 512 (t * ms.length + j)) (B := 512) ms.length fun j _ => sv_bd (by decide) _
    unfold iv8
    omega
theorem list_ext {l : List Bool} (hl : l.length = n) (hb : bs.length = n) (h : ∀ t, t < n → l.getD t false = bs.getD t false) : l = bs := by
  refine List.ext_getElem (by omega) fun i h1 h2 => ?_
  have := h i (by omega)
  simpa [List.getD, h1, h2] using this
/-- the best way of what was sent -/
theorem best_8 (H : Cd M n ms bs) (hvc : validCoderB (M : Int) ms = true) : bestOk (M : Int) ms (soft8 M n ms bs) = true ∧ bestL (M : Int) ms (soft8 M n ms bs) = bs ∧ Bd (512 * (((n + M) * ms.length : Nat) : Int)) (512 * (((n + M) * ms.length : Nat) : Int)) (bestG (M : Int) ms (soft8 M n ms bs)) := by
  obtain ⟨hs, hN⟩ := soft8_ok H hvc
  obtain ⟨V, c, h1, h2, h3, h4, h5, h6⟩ := best_ex (gw8 H)
  have ht := h4 _ (cP_leg H.len)
  rw [met_true] at ht
  have hsame : ∀ t, t < n → c t = bs.getD t false := fun t htn => Decidable.byContradiction fun hne => by
    have := met_other H (B := 512) (by decide) htn hne
    omega
  have hV : V = 512 * (((n + M) * ms.length : Nat) : Int) := by
    have hcs : met M (iv8 M n ms bs 512) 0 c 0 (n + M) = met M (iv8 M n ms bs 512) 0 (cP bs) 0 (n + M) := met_congr fun i _ => by
      rw [Nat.zero_add]
      by_cases q : i < n
      · exact hsame i q
      · rw [h2 i (by omega), cP_leg H.len i (by omega)]
    rw [hcs, met_true] at h3
    rw [← h3, Int.mul_assoc, Int.natCast_mul, Int.mul_comm (ms.length : Int)]
  have hl : wayBits M ms (soft8 M n ms bs) n = bs := list_ext h5 H.len fun t ht => by rw [h6 t ht]; exact hsame t ht
  have hok : bestOk (M : Int) ms (soft8 M n ms bs) = true := by
    unfold bestOk
    rw [hs, hN, Int.toNat_natCast, Int.toNat_natCast, fin_bd h1]
    rfl
  refine ⟨hok, ?_, ?_⟩
  · unfold bestL
    rw [hok, if_pos rfl, hN, Int.toNat_natCast, Int.toNat_natCast]
    exact hl
  · unfold bestG
    rw [hok, if_pos rfl, hN, Int.toNat_natCast, Int.toNat_natCast, ← hV]
    exact h1
theorem hard_8 (H : Cd M n ms bs) (hvc : validCoderB (M : Int) ms = true) : softB (soft8 M n ms bs) = true ∧ hardOfL (soft8 M n ms bs) = snt M n ms bs := by
  obtain ⟨hs, -⟩ := soft8_ok H hvc
  have hsoft : softB (soft8 M n ms bs) = true := by
    unfold sentOk sentB at hs
    simp only [Bool.and_eq_true] at hs
    exact hs.1.1.1.2
  refine ⟨hsoft, ?_⟩
  unfold hardOfL soft8
  rw [show softB ((snt M n ms bs).map (softSign 1090519040)) = true from hsoft, if_pos rfl, List.map_map]
  have : ∀ b, (hardB ∘ softSign 1090519040) b = b := by decide +kernel
  rw [show (hardB ∘ softSign 1090519040) = id from funext this, List.map_id]
/-- eight for each bit -/
theorem eight_len : ∀ k : Fin 25, fop .mul .f32 (some 1090519040) (some (floatOfInt .f32 (k.val : Int))) = some (gW (512 * (k.val : Int))) := by decide +kernel
theorem same_word {b : Int} {x : Nat} (h : b.natAbs < 16777216) (q : Bd b b (some x)) : single.order x (gW b) = some Ordering.eq := by
  obtain ⟨y, e, fy, y1, y2⟩ := q
  cases e
  obtain ⟨c1, c2⟩ := gW_val h
  rw [order_valF fy c1, c2, show valF x = b * (gG : Int) by omega]
  have : compare (b * (gG : Int)) (b * (gG : Int)) = Ordering.eq := by
    rw [cmp_cases]
    rw [if_neg (by omega), if_pos rfl]
  rw [this]
/-! ### doubles on the grid -/
def dE : Nat := 1068
def dG : Nat := 2 ^ dE
theorem dG_eq {W : Nat} (hW : W = 1068) : dG = 2 ^ W := by
  have h : dE = W := by rw [hW]; rfl
  unfold dG
  rw [h]
theorem dG_pos : 0 < dG := by unfold dG; exact Nat.two_pow_pos dE
def dw (n : Nat) : Nat := (1016 + n.log2) * 4503599627370496 + n * 2 ^ (52 - n.log2)
theorem dw_val {k : Nat} (h0 : k ≠ 0) (h : k < 16777216) : VD (dw k) = k * dG ∧ dw k < 9218868437227405312 := by
  obtain ⟨l, hl⟩ : ∃ l, k.log2 = l := ⟨_, rfl⟩
  have a1 : 2 ^ l ≤ k := by rw [← hl]; exact Nat.log2_self_le h0
  have a2 : k < 2 ^ (l + 1) := by rw [← hl]; exact Nat.lt_log2_self
  have a3 : l < 24 := by rw [← hl]; exact (Nat.log2_lt h0).2 (by omega)
  obtain ⟨m, hm⟩ : ∃ m, k * 2 ^ (52 - l) = m := ⟨_, rfl⟩
  have m1 : 4503599627370496 ≤ m := by
    have := Nat.mul_le_mul_right (2 ^ (52 - l)) a1
    rw [← Nat.pow_add, show l + (52 - l) = 52 by omega, hm] at this
    exact this
  have m2 : m < 9007199254740992 := by
    have := Nat.mul_lt_mul_of_pos_right a2 (Nat.two_pow_pos (52 - l))
    rw [← Nat.pow_add, show l + 1 + (52 - l) = 53 by omega, hm] at this
    exact this
  have hw : dw k = (1016 + l) * 4503599627370496 + m := by unfold dw; rw [hl, hm]
  have e1 : manD (dw k) = m := by
    unfold manD
    rw [hw, if_neg (by omega)]
    omega
  have e2 : plcD (dw k) = 1016 + l := by unfold plcD; rw [hw]; omega
  refine ⟨?_, by rw [hw]; omega⟩
  obtain ⟨W, hW⟩ : ∃ W, W = 1068 := ⟨_, rfl⟩
  unfold VD
  rw [e1, e2, ← hm, Nat.mul_assoc, ← Nat.pow_add, dG_eq hW, show 52 - l + (1016 + l) = W by omega]
def dW (b : Int) : Nat := if b = 0 then 0 else if b < 0 then dw b.natAbs + 9223372036854775808 else dw b.natAbs
theorem dW_val {b : Int} (h : b.natAbs < 16777216) : absD (dW b) < 9218868437227405312 ∧ valD (dW b) = b * (dG : Int) := by
  unfold dW
  split
  · rename_i hb
    subst hb
    exact ⟨by decide, by rw [Int.zero_mul]; decide +kernel⟩
  rename_i hb
  obtain ⟨h1, h2⟩ := dw_val (k := b.natAbs) (by omega) h
  split
  · rename_i hn
    have a1 : absD (dw b.natAbs + 9223372036854775808) = dw b.natAbs := by unfold absD; omega
    have a2 : sgnD (dw b.natAbs + 9223372036854775808) = true := by
      unfold sgnD
      rw [show (dw b.natAbs + 9223372036854775808) / 9223372036854775808 = 1 by omega]
      rfl
    refine ⟨by rw [a1]; exact h2, ?_⟩
    rw [val_neg a2, a1, h1, Int.natCast_mul, ← Int.neg_mul, show -(b.natAbs : Int) = b by omega]
  · rename_i hn
    have a1 : absD (dw b.natAbs) = dw b.natAbs := by unfold absD; omega
    have a2 : sgnD (dw b.natAbs) = false := by
      unfold sgnD
      rw [show dw b.natAbs / 9223372036854775808 = 0 by omega]
      rfl
    refine ⟨by rw [a1]; exact h2, ?_⟩
    rw [val_pos a2, a1, h1, Int.natCast_mul, show (b.natAbs : Int) = b by omega]
/-- a double that is a number of 64ths -/
def DD (b : Int) (x : Nat) : Prop := absD x < 9218868437227405312 ∧ valD x = b * (dG : Int)
theorem widen_DD {b : Int} {x : Nat} (h : b.natAbs < 16777216) (q : Bd b b (some x)) : ∃ y, floatToFloatBits .f32 x .f64 = some y ∧ DD b y := by
  obtain ⟨x', e, fx, x1, x2⟩ := q
  cases e
  obtain ⟨V, hV⟩ : ∃ V, V = 925 := ⟨_, rfl⟩
  obtain ⟨c1, c2⟩ := gW_val h
  obtain ⟨y, hy, hs, hf, hle, hge⟩ := widen_is fx hV
  refine ⟨y, hy, hf, ?_⟩
  have hx : valF x = b * (gG : Int) := by omega
  obtain ⟨W, hW⟩ : ∃ W, W = 1068 := ⟨_, rfl⟩
  have hg : gG * 2 ^ V = dG := by rw [dG_eq hW]; unfold gG; rw [← Nat.pow_add, show 143 + V = W by omega]
  have hn : VF (absF x) = b.natAbs * gG := by
    have e1 : (VF (absF x) : Int) = ((b * (gG : Int)).natAbs : Int) := by
      rw [← hx]
      unfold valF
      split <;> omega
    rw [Int.natAbs_mul, Int.natAbs_natCast] at e1
    exact Int.ofNat_inj.1 e1
  have hv : VD (absD y) = b.natAbs * dG := by
    by_cases h0 : b.natAbs = 0
    · rw [h0, Nat.zero_mul] at hn ⊢
      have := hle 0 (by rw [hn, Nat.zero_mul]; exact Nat.zero_le _)
      rw [show absD y = 0 by omega]
      exact VD_nought
    · obtain ⟨d1, d2⟩ := dw_val h0 h
      have k1 := hle (dw b.natAbs) (by rw [hn, d1, Nat.mul_assoc, hg]; exact Nat.le_refl _)
      have k2 := hge (dw b.natAbs) (by omega) (by rw [hn, d1, Nat.mul_assoc, hg]; exact Nat.le_refl _)
      rw [show absD y = dw b.natAbs by omega]
      exact d1
  have hgp := gG_pos
  cases hsx : sgnF x with
  | true =>
    rw [val_negF hsx, hn, Int.natCast_mul] at hx
    rw [val_neg (by rw [hs, hsx]), hv, Int.natCast_mul]
    have : -(b.natAbs : Int) = b := Int.eq_of_mul_eq_mul_right (a := (gG : Int)) (by omega) (by rw [Int.neg_mul]; exact hx)
    rw [← Int.neg_mul, this]
  | false =>
    rw [val_posF hsx, hn, Int.natCast_mul] at hx
    rw [val_pos (by rw [hs, hsx]), hv, Int.natCast_mul]
    have : (b.natAbs : Int) = b := Int.eq_of_mul_eq_mul_right (a := (gG : Int)) (by omega) hx
    rw [this]
theorem add_DD {a b : Int} {x y : Nat} (hx : DD a x) (hy : DD b y) (h : (a + b).natAbs < 16777216) : ∃ r, floatBits .add .f64 x y = some r ∧ DD (a + b) r := by
  obtain ⟨c1, c2⟩ := dW_val h
  obtain ⟨r, hr, fr, r1, r2⟩ := addD hx.1 hy.1 c1 c1 (by rw [c2, hx.2, hy.2, Int.add_mul]; omega) (by rw [c2, hx.2, hy.2, Int.add_mul]; omega)
  exact ⟨r, hr, fr, by omega⟩
theorem opp_val (y : Nat) : valD (oppD y) = -valD y := by
  obtain ⟨h1, h2⟩ := opp_parts y
  unfold valD
  rw [h1, h2]
  cases sgnD y <;> simp
theorem sub_DD {a b : Int} {x y : Nat} (hx : DD a x) (hy : DD b y) (h : (a - b).natAbs < 16777216) : ∃ r, floatBits .sub .f64 x y = some r ∧ DD (a - b) r := by
  have hy2 : DD (-b) (oppD y) := ⟨by rw [(opp_parts y).1]; exact hy.1, by rw [opp_val, hy.2, Int.neg_mul]⟩
  obtain ⟨r, hr, hr2⟩ := add_DD hx hy2 (by rw [← Int.sub_eq_add_neg]; exact h)
  rw [← Int.sub_eq_add_neg] at hr2
  exact ⟨r, by rw [sub_opp hy.1]; exact hr, hr2⟩
/-- not more than the gain and a thousandth -/
theorem gain_test {S V : Int} {x y : Nat} (hS : S ≤ V) (hV : V.natAbs < 1048576) (hx : DD S x) (hy : DD V y) : ∃ z, floatBits .add .f64 y 4562254508917369340 = some z ∧ (double.order x z == some Ordering.gt) = false := by
  obtain ⟨e1, e2⟩ := dW_val (b := V + 1) (by omega)
  have h1 : (0 : Int) ≤ valD 4562254508917369340 := by decide +kernel
  have h2 : valD 4562254508917369340 ≤ (dG : Int) := by decide +kernel
  have hy2 := hy.2
  obtain ⟨z, hz, fz, z1, z2⟩ := addD (x := y) (y := 4562254508917369340) (c := y) (e := dW (V + 1)) hy.1 (by decide) hy.1 e1 (by omega) (by rw [e2, hy2, Int.add_mul]; omega)
  refine ⟨z, hz, ?_⟩
  rw [order_valD hx.1 fz, cmp_gtB, decide_eq_false_iff_not, hx.2]
  have := Int.mul_le_mul_of_nonneg_right hS (show (0 : Int) ≤ (dG : Int) by omega)
  omega
/-! ### noisy numbers -/
/-- quarters from -4 to 4 -/
def Qt (v : Nat → Int) (ys : List Nat) : Prop := ∀ i, i < ys.length → -256 ≤ v i ∧ v i ≤ 256 ∧ Bd (v i) (v i) (some (ys.getD i 0))
theorem Qt.wd {v : Nat → Int} {ys : List Nat} (h : Qt v ys) {i : Nat} (hi : i < ys.length) : fl .f32 (ys.getD i 0) = some (ys.getD i 0) := by
  obtain ⟨x, e, fx, -, -⟩ := (h i hi).2.2
  cases e
  unfold fl
  rw [if_neg (by rw [fin_nn fx]; simp)]
def ivQ (ms : List Int) (v : Nat → Int) (t s : Nat) (b : Bool) : Int := gsum (sentL ms (2 * (s : Int) + bitI b)) (fun j => v (t * ms.length + j)) ms.length
theorem gwQ (H : Cd M n ms bs) {v : Nat → Int} {ys : List Nat} (hq : Qt v ys) (hl : ys.length = (n + M) * ms.length) : GW M n ms ys (ivQ ms v) := by
  have hk := H.k3
  refine ⟨H.m1, H.m3, H.n5, fun t s b g o ht hs hg hgs => ?_, fun t s b ht hs => ?_⟩
  · refine gain_exact (v := fun j => v (t * ms.length + j)) hg hgs ms.length (by omega) fun j hj => ?_
    have hi := in_len (k := ms.length) ht hj
    rw [← hl] at hi
    obtain ⟨q1, q2, q3⟩ := hq _ hi
    rw [partL_get hj, hq.wd hi]
    exact ⟨q3, by omega, by omega⟩
  · have hb := gsum_bd (sends := sentL ms (2 * (s : Int) + bitI b)) (v := fun j => v (t * ms.length + j)) (B := 256) ms.length fun j hj => by
      have hi := in_len (k := ms.length) ht hj
      rw [← hl] at hi
      obtain ⟨q1, q2, -⟩ := hq _ hi
      exact ⟨q1, q2⟩
    unfold ivQ
    omega
/-- the sent path's sum -/
def sumQ (sd : List Bool) (v : Nat → Int) : Nat → Int
  | 0 => 0
  | k + 1 => sumQ sd v k + (if sd.getD k false then v k else -v k)
theorem sumQ_add (sd : List Bool) (v : Nat → Int) (a : Nat) : ∀ k, sumQ sd v (a + k) = sumQ sd v a + gsum (sd.drop a) (fun j => v (a + j)) k
  | 0 => by show sumQ sd v a = sumQ sd v a + 0; omega
  | k + 1 => by
    show sumQ sd v (a + k) + (if sd.getD (a + k) false then v (a + k) else -v (a + k)) = sumQ sd v a + (gsum (sd.drop a) (fun j => v (a + j)) k + if (sd.drop a).getD k false then v (a + k) else -v (a + k))
    rw [sumQ_add sd v a k, show (sd.drop a).getD k false = sd.getD (a + k) false by simp [List.getD]]
    omega
theorem gsum_congr {s1 s2 : List Bool} {v : Nat → Int} : ∀ k : Nat, (∀ j, j < k → s1.getD j false = s2.getD j false) → gsum s1 v k = gsum s2 v k
  | 0, _ => rfl
  | k + 1, h => by
    unfold gsum
    rw [gsum_congr k fun j hj => h j (by omega), h k (by omega)]
theorem met_sumQ (v : Nat → Int) : ∀ t, t ≤ n + M → met M (ivQ ms v) 0 (cP bs) 0 t = sumQ (snt M n ms bs) v (t * ms.length)
  | 0, _ => by rw [Nat.zero_mul]; rfl
  | t + 1, ht => by
    rw [met_succ, met_sumQ v t (by omega), Nat.succ_mul, sumQ_add, Nat.zero_add]
    congr 1
    unfold ivQ
    refine gsum_congr _ fun j hj => ?_
    have e : (List.drop (t * ms.length) (snt M n ms bs)).getD j false = (snt M n ms bs).getD (t * ms.length + j) false := by simp [List.getD]
    rw [e]
    unfold snt
    rw [outR_get _ _ _ (by omega) hj]
    rfl
/-- the best way of noisy numbers is no worse than what was sent -/
theorem best_noisy (H : Cd M n ms bs) (hvc : validCoderB (M : Int) ms = true) {v : Nat → Int} {ys : List Nat} (hq : Qt v ys) (hl : ys.length = (n + M) * ms.length) : bestOk (M : Int) ms ys = true ∧ ∃ V : Int, V.natAbs < 1048576 ∧ Bd V V (bestG (M : Int) ms ys) ∧ sumQ (snt M n ms bs) v ((n + M) * ms.length) ≤ V := by
  have hk1 := H.k1
  have hk3 := H.k3
  have hm3 := H.m3
  have hn5 := H.n5
  have hN : sentN (M : Int) ms ys = (n : Int) := by
    unfold sentN
    rw [hl, Nat.mul_div_cancel _ (by omega)]
    push_cast
    omega
  have h160 : (n + M) * ms.length ≤ 8 * 3 := Nat.mul_le_mul (by omega) hk3
  have hsoft : softB ys = true := by
    unfold softB
    rw [hl, decide_eq_true (by omega), Bool.true_and, List.all_eq_true]
    intro x hx
    obtain ⟨i, hi, rfl⟩ := List.mem_iff_getElem.1 hx
    have h1 := hq.wd hi
    have h2 := (hq i hi).2.2
    have e : ys.getD i 0 = ys[i] := by simp [List.getD, hi]
    rw [e] at h1 h2
    rw [h1]
    exact fin_bd h2
  have hs : sentOk (M : Int) ms ys = true := by
    unfold sentOk sentB
    rw [hN, hvc, hsoft, hl, Nat.mul_mod_left]
    simp only [Bool.and_self, Bool.true_and, Bool.and_eq_true, decide_eq_true_eq, beq_self_eq_true]
    omega
  obtain ⟨V, c, h1, h2, h3, h4, -, -⟩ := best_ex (gwQ H hq hl)
  have ht := h4 _ (cP_leg H.len)
  rw [met_sumQ v (n + M) (Nat.le_refl _)] at ht
  have hVb := met_bdB (M := M) (iv := ivQ ms v) (c := c) (p := 0) (B := 2048) (Nat.pow_pos (a := 2) (by decide)) (n + M) fun i s b hi hs => by rw [Nat.zero_add]; exact (gwQ H hq hl).bd i s b (by omega) hs
  rw [h3] at hVb
  have hok : bestOk (M : Int) ms ys = true := by
    unfold bestOk
    rw [hs, hN, Int.toNat_natCast, Int.toNat_natCast, fin_bd h1]
    rfl
  refine ⟨hok, V, by omega, ?_, ht⟩
  unfold bestG
  rw [hok, if_pos rfl, hN, Int.toNat_natCast, Int.toNat_natCast]
  exact h1

end Go.Proofs.Ytopeidmafalklaa


namespace Go.Proofs.Ytopeidmafalklaa
open Go.RowKit


/-- a source at a block, at a place at most m -/
def Src (w : World) (S : Nat) (A : Option Addr) (n cap : Nat) (m : Nat) : Prop := ∃ (p : Nat) (seed : Int), p ≤ m ∧ 0 ≤ seed ∧ seed < 18446744073709551616 ∧ Obj w S 127 #[.slice A n cap, .int .i64 (p : Int), .int .u64 seed]
theorem and255 (a : Int) : 0 ≤ bits .and .u64 a 255 ∧ bits .and .u64 a 255 ≤ 255 := by
  have e3 : bits .and .u64 a 255 = IntKind.u64.wrap ((BitVec.ofInt 64 a &&& BitVec.ofInt 64 255).toNat : Int) := rfl
  have h1 : (BitVec.ofInt 64 a &&& BitVec.ofInt 64 255).toNat ≤ 255 := by
    rw [BitVec.toNat_and]
    exact Nat.and_le_right
  rw [e3, IntWalk.u64_in _ (by omega)]
  omega
theorem u64_bd (a : Int) : 0 ≤ IntKind.u64.wrap a ∧ IntKind.u64.wrap a < 18446744073709551616 := by
  have e : IntKind.u64.wrap a = a % 18446744073709551616 := by simp [IntKind.wrap, IntKind.bits, IntKind.signed]
  rw [e]
  omega
theorem grown_weak {w w' : World} {r : Option Nat} (h : w.grownBy w' none) : w.grownBy w' r := ⟨h.os, h.tape, h.output, h.size, fun k hk _ => h.block k hk (by simp)⟩
theorem grown_drewN {w w' : World} {r : Option Nat} (h : w.grownBy w' r) (k : Nat) : w.grownBy (w'.drewN k) r := ⟨h.os, h.tape, h.output, h.size, h.block⟩
set_option maxRecDepth 100000 in
set_option maxHeartbeats 1000000 in
theorem next_c (w : World) (S B : Nat) (A : Option Addr) (n cap m : Nat) (c : List Int) (hl : c.length = n) (hn : n ≤ 1048576) (hb : ∀ x ∈ c, 0 ≤ x ∧ x ≤ 255) (hx : Sl w B A (c.map (Value.int .u8))) (_hBS : B ≤ S) (hm : m ≤ 1048576) (ho : Src w S A n cap m) :
    Calls Try.prog 84 #[.pointer (some ⟨S, 0, none⟩)] w fun e w' => ∃ x : Int, e = .returned (.int .i64 x) ∧ 0 ≤ x ∧ x ≤ 255 ∧ Src w' S A n cap (m + 1) ∧ w.grownBy w' (some S) := by
  obtain ⟨p, seed, hp, hs0, hs1, ho⟩ := ho
  have c0 := ho.cell 0
  have c1 := ho.cell 1
  have c2 := ho.cell 2
  simp only [List.getElem?_toArray, List.getElem?_cons_zero, List.getElem?_cons_succ] at c0 c1 c2
  have f1 := ho.frozen 1
  have f2 := ho.frozen 2
  by_cases hlt : p < n
  · obtain ⟨b, off, rfl, hbb, hc⟩ := hx.get p (by omega)
    have hmem := hb (c[p]'(by omega)) (List.getElem_mem _)
    obtain ⟨x, hxx⟩ : ∃ x, c[p]'(by omega) = x := ⟨_, rfl⟩
    rw [hxx] at hc hmem
    clear hxx hx hb
    have HO := Lib.hid ho
    clear ho
    go_enter Try.func84, Try.ntmps84
    go_wp2
    go_quiet (fail)
    go_wp2
    go_quiet (fail)
    go_wp2
    generalize hs2 : IntKind.u64.wrap (IntKind.u64.wrap (IntKind.u64.wrap (seed * 6364136223846793005) + x) + 1442695040888963407) = seed2
    have hsb : 0 ≤ seed2 ∧ seed2 < 18446744073709551616 := by rw [← hs2]; exact u64_bd _
    generalize hq : World.drewN w _ = w1
    have HO1 := Lib.hid (show Obj w1 S 127 _ by rw [← hq]; exact HO.out)
    have hg1 : w.grownBy w1 none := by rw [← hq]; exact ⟨rfl, rfl, rfl, Nat.le_refl _, fun _ _ _ => rfl⟩
    have HG1 := Lib.hid hg1
    clear hq hs2 hg1
    obtain ⟨w2, e2⟩ : ∃ q : World, q = (w1.setCell ⟨S, 1, none⟩ (.int .i64 ((p : Int) + 1))).setCell ⟨S, 2, none⟩ (.int .u64 seed2) := ⟨_, rfl⟩
    rw [← e2]
    have HO2 : Obj w2 S 127 #[.slice (some ⟨b, off, none⟩) n cap, .int .i64 ((p : Int) + 1), .int .u64 seed2] := by
      rw [e2]
      have h := (HO1.out.set 1 (.int .i64 ((p : Int) + 1))).set 2 (.int .u64 seed2)
      simpa using h
    have HG2 := Lib.hid (show w.grownBy w2 (some S) by rw [e2]; exact ((grown_weak HG1.out).trans (grownBy_set w1 S 1 _)).trans (grownBy_set _ S 2 _))
    have d0 := HO2.cell 0
    have d1 := HO2.cell 1
    simp only [List.getElem?_toArray, List.getElem?_cons_zero, List.getElem?_cons_succ] at d0 d1
    have HO3 := Lib.hid HO2
    clear HO2 e2 c0 c1 c2 f1 f2 hc
    have hle : decide ((p : Int) + 1 ≤ (n : Int)) = true := by simp; omega
    go_quiet (fail)
    go_wp2
    go_ret
    exact ⟨x, rfl, hmem.1, hmem.2, ⟨p + 1, seed2, by omega, hsb.1, hsb.2, HO3.out⟩, grown_drewN HG2.out _⟩
  · have HO := Lib.hid ho
    clear ho hx hb
    have hge : ¬ p < n := hlt
    go_enter Try.func84, Try.ntmps84
    go_wp2
    go_quiet (fail)
    go_wp2
    generalize hs2 : IntKind.u64.wrap (IntKind.u64.wrap (IntKind.u64.wrap (seed * 6364136223846793005)) + 1442695040888963407) = seed2
    have hsb : 0 ≤ seed2 ∧ seed2 < 18446744073709551616 := by rw [← hs2]; exact u64_bd _
    generalize hq : World.drewN w _ = w1
    have HO1 := Lib.hid (show Obj w1 S 127 _ by rw [← hq]; exact HO.out)
    have hg1 : w.grownBy w1 none := by rw [← hq]; exact ⟨rfl, rfl, rfl, Nat.le_refl _, fun _ _ _ => rfl⟩
    have HG1 := Lib.hid hg1
    clear hq hs2 hg1
    obtain ⟨w2, e2⟩ : ∃ q : World, q = (w1.setCell ⟨S, 1, none⟩ (.int .i64 ((p : Int) + 1))).setCell ⟨S, 2, none⟩ (.int .u64 seed2) := ⟨_, rfl⟩
    rw [← e2]
    have HO2 : Obj w2 S 127 #[.slice A n cap, .int .i64 ((p : Int) + 1), .int .u64 seed2] := by
      rw [e2]
      have h := (HO1.out.set 1 (.int .i64 ((p : Int) + 1))).set 2 (.int .u64 seed2)
      simpa using h
    have HG2 := Lib.hid (show w.grownBy w2 (some S) by rw [e2]; exact ((grown_weak HG1.out).trans (grownBy_set w1 S 1 _)).trans (grownBy_set _ S 2 _))
    have d0 := HO2.cell 0
    have d1 := HO2.cell 1
    simp only [List.getElem?_toArray, List.getElem?_cons_zero, List.getElem?_cons_succ] at d0 d1
    have HO3 := Lib.hid HO2
    have d2 := HO2.cell 2
    simp only [List.getElem?_toArray, List.getElem?_cons_zero, List.getElem?_cons_succ] at d2
    clear HO2 e2 c0 c1 c2 f1 f2
    have hle : decide ((p : Int) + 1 ≤ (n : Int)) = false := by simp; omega
    go_quiet (fail)
    go_wp2
    have hx := and255 (seed2 / 1099511627776)
    generalize bits .and .u64 (seed2 / 1099511627776) 255 = x at hx
    have hx2 : wrap64 x = x := IntWalk.wrap64_in _ (by omega)
    go_wp2
    go_ret
    exact ⟨wrap64 x, rfl, by rw [hx2]; exact hx.1, by rw [hx2]; exact hx.2, ⟨p + 1, seed2, by omega, hsb.1, hsb.2, HO3.out⟩, grown_drewN HG2.out _⟩


set_option maxRecDepth 100000 in
set_option maxHeartbeats 1000000 in
theorem pick_c (w : World) (S B : Nat) (A : Option Addr) (n cap m : Nat) (c : List Int) (hl : c.length = n) (hn : n ≤ 1048576) (hb : ∀ x ∈ c, 0 ≤ x ∧ x ≤ 255) (hx : Sl w B A (c.map (Value.int .u8))) (hBS : B ≤ S) (hm : m ≤ 1048570) (ho : Src w S A n cap m) (q : Int) (hq1 : 1 ≤ q) (hq : q ≤ 200) :
    Calls Try.prog 66 #[.pointer (some ⟨S, 0, none⟩), .int .i64 q] w fun e w' => ∃ x : Int, e = .returned (.int .i64 x) ∧ 0 ≤ x ∧ x < q ∧ Src w' S A n cap (m + 1) ∧ w.grownBy w' (some S) := by
  have HN := Lib.hid (next_c w S B A n cap m c hl hn hb hx hBS (by omega) ho)
  obtain ⟨p0, s0, g0, g1, g2, g3⟩ := ho
  have HO := Lib.hid (show Src w S A n cap (m + 1) from ⟨p0, s0, by omega, g1, g2, g3⟩)
  clear hx hb g3
  by_cases h1 : q ≤ 1
  · go_enter Try.func66, Try.ntmps66
    go_wp2
    go_ret
    exact ⟨0, rfl, by omega, by omega, HO.out, ⟨rfl, rfl, rfl, Nat.le_refl _, fun _ _ _ => rfl⟩⟩
  · go_enter Try.func66, Try.ntmps66
    go_wp2_with fail
    refine HN.out.mono ?_
    rintro e w1 ⟨x, rfl, hx0, hx1, hs, hg⟩
    have HS := Lib.hid hs
    have HG := Lib.hid hg
    clear hs hg
    have ht : x.tmod q = x % q := Int.tmod_eq_emod_of_nonneg hx0
    have h2 := Int.emod_nonneg x (show q ≠ 0 by omega)
    have h3 := Int.emod_lt_of_pos x (show 0 < q by omega)
    generalize x % q = r at ht h2 h3
    go_wp2
    go_ret
    exact ⟨_, rfl, h2, h3, HS.out, HG.out⟩

theorem own_ne {w : World} {D n S : Nat} {e : TypeId} {v : Value} {xs : List Value} (h : w.ownsRow D e 1 v n xs) (hS : S < D) : v.ownBlock = none ∨ v.ownBlock ≠ some S := by
  cases hv : v.ownBlock with
  | none => exact .inl rfl
  | some g => exact .inr fun he => by have := (h.lt g hv).1; injection he with he; omega
theorem grown_over {w w1 w2 : World} {r : Option Nat} {D : Nat} (h : w.grownBy w1 r) (g : Below D w1 w2) (hD : w.heap.size ≤ D) : w.grownBy w2 r :=
  ⟨g.os.trans h.os, g.tape.trans h.tape, g.output.trans h.output, Nat.le_trans h.size g.size, fun k hk hne => (g.block k (Nat.lt_of_lt_of_le hk hD)).trans (h.block k hk hne)⟩
theorem Src.below {w w' : World} {S n cap m D : Nat} {A : Option Addr} (h : Src w S A n cap m) (hb : Below D w w') (hS : S < D) : Src w' S A n cap m := by
  obtain ⟨p, s, h1, h2, h3, ho⟩ := h
  exact ⟨p, s, h1, h2, h3, ho.below hb hS⟩
theorem Src.kept {w w' : World} {S n cap m : Nat} {A : Option Addr} {r : Option Nat} (h : Src w S A n cap m) (hg : w.grownBy w' r) (hr : r ≠ some S) : Src w' S A n cap m := by
  obtain ⟨p, s, h1, h2, h3, ho⟩ := h
  exact ⟨p, s, h1, h2, h3, ho.kept hg (fun e => hr e.symm)⟩
theorem Src.lt {w : World} {S n cap m : Nat} {A : Option Addr} (h : Src w S A n cap m) : S < w.heap.size := by
  obtain ⟨p, s, h1, h2, h3, ho⟩ := h
  exact ho.lt

/-- of the blocks below z only S may be turned -/
structure Gr (z S : Nat) (w w' : World) : Prop where
  os : w'.os = w.os
  tape : w'.tape = w.tape
  output : w'.output = w.output
  size : w.heap.size ≤ w'.heap.size
  block : ∀ i, i < z → i ≠ S → w'.heap[i]? = w.heap[i]?
theorem Gr.refl (z S : Nat) (w : World) : Gr z S w w := ⟨rfl, rfl, rfl, Nat.le_refl _, fun _ _ _ => rfl⟩
theorem Gr.trans {z S : Nat} {w w1 w2 : World} (h : Gr z S w w1) (g : Gr z S w1 w2) : Gr z S w w2 :=
  ⟨g.os.trans h.os, g.tape.trans h.tape, g.output.trans h.output, Nat.le_trans h.size g.size, fun i hi hn => (g.block i hi hn).trans (h.block i hi hn)⟩
theorem Gr.of_grown {z S : Nat} {w w' : World} (h : w.grownBy w' (some S)) (hz : z ≤ w.heap.size) : Gr z S w w' := ⟨h.os, h.tape, h.output, h.size, fun i hi hn => h.block i (by omega) (by simpa using hn)⟩
theorem Gr.of_far {z S T : Nat} {w w' : World} (h : w.grownBy w' (some T)) (hT : z ≤ T) (hz : z ≤ w.heap.size) : Gr z S w w' := ⟨h.os, h.tape, h.output, h.size, fun i hi _ => h.block i (by omega) (by simp; omega)⟩
theorem Gr.of_below {z S D : Nat} {w w' : World} (h : Below D w w') (hz : z ≤ D) : Gr z S w w' := ⟨h.os, h.tape, h.output, h.size, fun i hi _ => h.block i (by omega)⟩
theorem own1_opn {w : World} {base n : Nat} {e : TypeId} {v : Value} {xs : List Value} (h : w.ownsRow base e 1 v n xs) : ∃ A cap, v = .slice A n cap := by
  rcases h.2 with ⟨rfl, rfl⟩ | ⟨g, cap, cur, rfl, _⟩
  · exact ⟨_, _, rfl⟩
  · exact ⟨_, _, rfl⟩
theorem Gr.of_row {z S D : Nat} {w w' : World} {r : Option Nat} (h : w.grownBy w' r) (hr : ∀ k, r = some k → D ≤ k) (hD : z ≤ D) (hz : z ≤ w.heap.size) : Gr z S w w' := ⟨h.os, h.tape, h.output, h.size, fun i hi _ => h.block i (by omega) (fun e => by have := hr i e.symm; omega)⟩
theorem own_gr {w w' : World} {base : Nat} {e : TypeId} {size n z S : Nat} {v : Value} {xs : List Value} (h : w.ownsRow base e size v n xs) (hg : Gr z S w w') (hz : w.heap.size ≤ z) (hS : S < base) : w'.ownsRow base e size v n xs := by
  refine ⟨h.1, ?_⟩
  rcases h.2 with hn | ⟨g, cap, cur, rfl, hbg, hgg, rest⟩
  · exact .inl hn
  · have hlt := (Array.getElem?_eq_some_iff.1 hgg).1
    exact .inr ⟨g, cap, cur, rfl, hbg, by rw [hg.block g (by omega) (by omega)]; exact hgg, rest⟩
theorem below_gr {D z S : Nat} {w w1 w' : World} (h : Below D w w1) (hg : Gr z S w1 w') (hz : D ≤ z) (hS : D ≤ S) : Below D w w' :=
  ⟨hg.os.trans h.os, hg.tape.trans h.tape, hg.output.trans h.output, Nat.le_trans h.size hg.size, fun i hi => (hg.block i (by omega) (by omega)).trans (h.block i hi)⟩
theorem sl_gr {w w' : World} {B z S : Nat} {A : Option Addr} {xs : List Value} (h : Sl w B A xs) (hg : Gr z S w w') (hB : B ≤ S) (hz : B ≤ z) : Sl w' B A xs :=
  h.keep fun p hp => by
    unfold World.cell?
    rw [hg.block p.block (by omega) (by omega)]
theorem Src.more {w : World} {S n cap m m' : Nat} {A : Option Addr} (h : Src w S A n cap m) (hm : m ≤ m') : Src w S A n cap m' := by
  obtain ⟨p, s, h1, h2⟩ := h
  exact ⟨p, s, by omega, h2⟩


set_option maxRecDepth 100000 in
set_option maxHeartbeats 1000000 in
theorem pick2_c (w : World) (S B : Nat) (A : Option Addr) (n cap m : Nat) (c : List Int) (hl : c.length = n) (hn : n ≤ 1048576) (hb : ∀ x ∈ c, 0 ≤ x ∧ x ≤ 255) (hx : Sl w B A (c.map (Value.int .u8))) (hBS : B ≤ S) (hm : m ≤ 1048570) (ho : Src w S A n cap m) (q : Int) (hq1 : 1 ≤ q) (hq : q ≤ 65536) :
    Calls Try.prog 66 #[.pointer (some ⟨S, 0, none⟩), .int .i64 q] w fun e w' => ∃ x : Int, e = .returned (.int .i64 x) ∧ 0 ≤ x ∧ x < q ∧ Src w' S A n cap (m + 2) ∧ w.grownBy w' (some S) := by
  by_cases hs : q ≤ 200
  · refine (pick_c w S B A n cap m c hl hn hb hx hBS hm ho q hq1 hs).mono ?_
    rintro e w' ⟨x, rfl, h0, h1, hs, hg⟩
    exact ⟨x, rfl, h0, h1, hs.more (by omega), hg⟩
  · have HN := Lib.hid (next_c w S B A n cap m c hl hn hb hx hBS (by omega) ho)
    have hBw : B ≤ w.heap.size := by have := ho.lt; omega
    have HX := Lib.hid hx
    have HB := Lib.hid hb
    clear hx hb ho
    go_enter Try.func66, Try.ntmps66
    go_wp2_with fail
    refine HN.out.mono ?_
    rintro e w1 ⟨x, rfl, hx0, hx1, hs, hg⟩
    have HN2 := Lib.hid (next_c w1 S B A n cap (m + 1) c hl hn HB.out (sl_gr HX.out (Gr.of_grown (z := B) hg hBw) hBS (Nat.le_refl _)) hBS (by omega) hs)
    have HG := Lib.hid hg
    have hw1 : IntKind.i64.wrap (x * 256) = x * 256 := IntWalk.i64_in _ (by omega)
    clear hs hg
    go_wp2_with fail
    refine HN2.out.mono ?_
    rintro e w2 ⟨y, rfl, hy0, hy1, hs2, hg2⟩
    have HS := Lib.hid hs2
    have HG2 := Lib.hid hg2
    clear hs2 hg2
    obtain ⟨z, hz⟩ : ∃ z, x * 256 + y = z := ⟨_, rfl⟩
    have hw2 : IntKind.i64.wrap (x * 256 + y) = x * 256 + y := IntWalk.i64_in _ (by omega)
    have hz0 : 0 ≤ x * 256 + y := by omega
    have ht : (x * 256 + y).tmod q = (x * 256 + y) % q := Int.tmod_eq_emod_of_nonneg hz0
    have h2 := Int.emod_nonneg (x * 256 + y) (show q ≠ 0 by omega)
    have h3 := Int.emod_lt_of_pos (x * 256 + y) (show 0 < q by omega)
    generalize (x * 256 + y) % q = r at ht h2 h3
    clear hz z
    go_wp2
    go_ret
    exact ⟨_, rfl, h2, h3, HS.out, HG.out.trans HG2.out⟩


theorem l00From_c (w : World) (A : Option Addr) (n cap : Nat) :
    Calls Try.prog 55 #[.slice A n cap] w fun e w' => e = .returned (.pointer (some ⟨w.heap.size, 0, none⟩)) ∧ Src w' w.heap.size A n cap 0 ∧ Below w.heap.size w w' ∧ w'.heap.size = w.heap.size + 1 := by
  go_enter Try.func55, Try.ntmps55
  go_wp2
  go_ret
  exact ⟨rfl, ⟨0, 0, Nat.le_refl _, by decide, by decide, Obj.new _ _ _⟩, (Below.refl _ _).alloc (Nat.le_refl _) _, by simp⟩

end Go.Proofs.Ytopeidmafalklaa


namespace Go.Proofs.Ytopeidmafalklaa
open Go.RowKit


theorem one_c (w : World) (S B : Nat) (A : Option Addr) (n cap m : Nat) (c : List Int) (hl : c.length = n) (hn : n ≤ 1048576) (hb : ∀ x ∈ c, 0 ≤ x ∧ x ≤ 255) (hx : Sl w B A (c.map (Value.int .u8))) (hBS : B ≤ S) (hm : m ≤ 1048570) (ho : Src w S A n cap m) :
    Calls Try.prog 82 #[.pointer (some ⟨S, 0, none⟩), .int .i64 2] w fun e w' => ∃ x : Bool, e = .returned (.bool x) ∧ Src w' S A n cap (m + 1) ∧ w.grownBy w' (some S) := by
  go_enter Try.func82, Try.ntmps82
  go_wp2_with fail
  refine (pick_c w S B A n cap m c hl hn hb hx hBS hm ho 2 (by decide) (by decide)).mono ?_
  rintro e w1 ⟨x, rfl, hx0, hx1, hs, hg⟩
  have HS := Lib.hid hs
  have HG := Lib.hid hg
  clear hs hg
  go_wp2
  go_ret
  exact ⟨_, rfl, HS.out, HG.out⟩


set_option maxRecDepth 100000 in
set_option maxHeartbeats 1000000 in
theorem l07DrawBits_c (w : World) (S B : Nat) (A : Option Addr) (n cap m : Nat) (c : List Int) (hl : c.length = n) (hn : n ≤ 1048576) (hb : ∀ x ∈ c, 0 ≤ x ∧ x ≤ 255) (hx : Sl w B A (c.map (Value.int .u8))) (hBS : B ≤ S) (hm : m ≤ 1048000) (ho : Src w S A n cap m) (q : Nat) (hq : q ≤ 64) :
    Calls Try.prog 57 #[.pointer (some ⟨S, 0, none⟩), .int .i64 (q : Int)] w fun e w' => ∃ (v : Value) (bs : List Bool), e = .returned v ∧ bs.length = q ∧ Ow w' w.heap.size 4 v (bs.map Value.bool) ∧ Src w' S A n cap (m + q) ∧ w.grownBy w' (some S) := by
  have HX := Lib.hid hx
  have HB := Lib.hid hb
  have HSL := Lib.hid ho.lt
  clear hx hb
  go_enter Try.func57, Try.ntmps57
  go_wp2
  go_loopw [1, 5] (fun i v wr => ∃ (k : Nat) (bs : List Bool), k ≤ q ∧ i = .int .i64 k ∧ bs.length + k = q ∧ Ow wr w.heap.size 4 v (bs.map Value.bool) ∧ Hid (Src wr S A n cap (m + bs.length)) ∧ Hid (w.grownBy wr (some S))) (fun i _ _ => (intOf i).toNat)
  case atStart =>
    exact ⟨q, [], Nat.le_refl _, rfl, by simp, own_empty _ _ _ (Nat.le_refl _), Lib.hid (ho.kept (World.grownBy_alloc w _ none) (by simp)), Lib.hid (World.grownBy_alloc w _ _)⟩
  case round =>
    clear ho
    obtain ⟨k, bs, hk, rfl, hlen, ho, HS, HG⟩ := hrel
    by_cases hk0 : k = 0
    · subst hk0
      have hz : Value.int .i64 ((0 : Nat) : Int) = .int .i64 0 := rfl
      rw [hz]
      go_wp2
      go_ret
      exact ⟨_, bs, rfl, by omega, ho, by rw [show m + q = m + bs.length by omega]; exact HS.out, HG.out⟩
    · have hxr : Sl wr B A (c.map (Value.int .u8)) := by
        refine HX.out.keep fun p hp => ?_
        have hlt := HSL.out
        unfold World.cell?
        rw [HG.out.block p.block (by omega) (by simp; omega)]
      have HO := Lib.hid (one_c wr S B A n cap (m + bs.length) c hl hn HB.out hxr hBS (by omega) HS.out)
      have hz := HG.out.size
      have hlen2 : (bs.map Value.bool).length + 1 ≤ 1099511627776 := by rw [List.length_map]; omega
      have HW := Lib.hid ho
      clear hxr ho
      go_wp2_with (first
        | (go_at_call 82; refine HO.out.mono ?_; rintro e w1 ⟨x, rfl, hs1, hg1⟩; have hz1 := hg1.size; have hlt1 := hs1.lt; have ho1 := HW.out.kept hg1 (own_ne HW.out HSL.out))
        | (at_builtin; go_must (refine app1 Try.underlying41 infoBool rfl (by decide) rfl _ _ rfl _ _ _ rfl (ho1.alloc _) _ _ _ rfl (cell_new1 _ _ _) rfl hlen2 (by simp; omega) ?_); intro v' w2 ho2 hb2))
      go_roundw
      case rel =>
        have hba := (Below.refl w.heap.size w1).alloc (by omega) (.cells #[.bool x] 4)
        refine ⟨k - 1, bs ++ [x], by omega, by go_num, by rw [List.length_append]; simp; omega, by rw [List.map_append]; exact ho2, Lib.hid ?_, Lib.hid ?_⟩
        · rw [List.length_append]
          exact (hs1.below hba HSL.out).below hb2 HSL.out
        · exact grown_over (grown_over (HG.out.trans hg1) hba (Nat.le_refl _)) hb2 (Nat.le_refl _)
      case measure => simp [intOf]; omega



set_option maxRecDepth 100000 in
theorem B10Bools_c (w : World) (A : Option Addr) (n cap : Nat) (c : List Int) (hl : c.length = n) (hn : n ≤ 1048576) (hb : ∀ x ∈ c, 0 ≤ x ∧ x ≤ 255) (hx : Sl w w.heap.size A (c.map (Value.int .u8))) (q : Nat) (hq : q ≤ 64) :
    Calls Try.prog 18 #[.slice A n cap, .int .i64 (q : Int)] w fun e w' => ∃ (v : Value) (bs : List Bool), e = .returned v ∧ bs.length = q ∧ Ow w' w.heap.size 4 v (bs.map Value.bool) ∧ Below w.heap.size w w' := by
  have HX := Lib.hid hx
  have HB := Lib.hid hb
  clear hx hb
  go_enter Try.func18, Try.ntmps18
  go_wp2_with fail
  refine (l00From_c w A n cap).mono ?_
  rintro e w1 ⟨rfl, hs, hb1, hz1⟩
  have HS := Lib.hid hs
  have hx1 := HX.out.below hb1
  clear hs
  go_wp2_with fail
  refine (l07DrawBits_c w1 w.heap.size w.heap.size A n cap 0 c hl hn HB.out hx1 (Nat.le_refl _) (by decide) HS.out q hq).mono ?_
  rintro e w2 ⟨v, bs, rfl, hbl, ho, hs2, hg⟩
  have HO := Lib.hid ho
  clear ho hs2
  go_wp2
  go_ret
  exact ⟨v, bs, rfl, hbl, own_base HO.out (by omega), hb1.grown hg hb1.size (fun k hk => by cases hk; exact Nat.le_refl _)⟩


set_option maxRecDepth 100000 in
set_option maxHeartbeats 1000000 in
theorem b10Bools_t (w : World) (B : Nat) (A A2 : Option Addr) (n cap n2 cap2 : Nat) (xs : List Bool) (hl : xs.length = n) (hn : n ≤ 1048576) (hn2 : n2 = n) (hx : Sl w B A (xs.map Value.bool)) (hy : Sl w B A2 (xs.map Value.bool)) :
    Calls Try.prog 27 #[.slice A n cap, .slice A2 n2 cap2] w fun e w' => e = .returned (.bool true) ∧ ∃ k, w' = w.drewN k := by
  subst hn2
  go_enter Try.func27, Try.ntmps27
  have he : ((n2 : Int) != (n2 : Int)) = false := by simp
  go_wp2_with fail
  go_loopw [13] (fun i wr => ∃ k m : Nat, k ≤ n2 ∧ i = .int .i64 (k : Int) ∧ wr = w.drewN m) (fun i _ => n2 - (intOf i).toNat)
  case atStart => exact ⟨0, 0, Nat.zero_le _, rfl, rfl⟩
  case round =>
    obtain ⟨k, m, hk, rfl, rfl⟩ := hrel
    by_cases hlt : k < n2
    · obtain ⟨b, off, rfl, hbb, hc1⟩ := hx.get k (by omega)
      obtain ⟨b2, off2, rfl, hbb2, hc2⟩ := hy.get k (by omega)
      obtain ⟨x, hxx⟩ : ∃ x, xs[k]'(by omega) = x := ⟨_, rfl⟩
      rw [hxx] at hc1 hc2
      have hxe : (x != x) = false := by simp
      clear hx hy hxx
      go_wp2_with fail
      go_quiet (fail)
      go_wp2
      go_roundw
      case rel => exact ⟨k + 1, _, by omega, by go_num, rfl⟩
      case measure => simp [intOf]; omega
    · have : k = n2 := by omega
      subst this
      go_wp2
      go_ret
      exact ⟨rfl, m, rfl⟩

end Go.Proofs.Ytopeidmafalklaa


namespace Go.Proofs.Ytopeidmafalklaa
open Go.RowKit

end Go.Proofs.Ytopeidmafalklaa


namespace Go.Proofs.Ytopeidmafalklaa
open Go.RowKit

theorem own_dalloc' {w : World} {n base : Nat} {e : TypeId} {v : Value} {xs : List Value} (h : Ow w base e v xs) (o : Go.Obj) : Ow ((w.drewN n).alloc o) base e v xs := World.ownsRow.alloc (w := w.drewN n) h o

/-- a quarter of an integer -/
def qW (j : Int) : Nat := gW (16 * j)
theorem qx_all : ∀ k : Nat, k < 33 → floatBits .quo .f32 (floatOfInt .f32 ((k : Int) - 16)) 1082130432 = some (qW ((k : Int) - 16)) := by decide +kernel
theorem qx_ok {x : Int} (h0 : 0 ≤ x) (h1 : x < 33) : floatBits .quo .f32 (floatOfInt .f32 (x - 16)) 1082130432 = some (qW (x - 16)) ∧ True := by
  obtain ⟨k, rfl⟩ : ∃ k : Nat, x = (k : Int) := ⟨x.toNat, by omega⟩
  exact ⟨qx_all k (by omega), trivial⟩

set_option maxRecDepth 100000 in
set_option maxHeartbeats 1000000 in
theorem B10Soft_x (w : World) (A : Option Addr) (n cap : Nat) (c : List Int) (hl : c.length = n) (hn : n ≤ 1048576) (hb : ∀ x ∈ c, 0 ≤ x ∧ x ≤ 255) (hx : Sl w w.heap.size A (c.map (Value.int .u8))) (q : Nat) (hq : q ≤ 64) :
    Calls Try.prog 28 #[.slice A n cap, .int .i64 (q : Int)] w fun e w' => ∃ (v : Value) (xs : List Int), e = .returned v ∧ xs.length = q ∧ (∀ x ∈ xs, -16 ≤ x ∧ x ≤ 16) ∧ Ow w' w.heap.size 46 v ((xs.map qW).map (Value.float .f32)) ∧ Below w.heap.size w w' := by
  have HX := Lib.hid hx
  have HB := Lib.hid hb
  clear hx hb
  go_enter Try.func28, Try.ntmps28
  go_wp2_with fail
  refine (l00From_c w A n cap).mono ?_
  rintro e w1 ⟨rfl, hs, hb1, hz1⟩
  have HS := Lib.hid hs
  have HB1 := Lib.hid hb1
  obtain ⟨S, hS⟩ : ∃ S, w.heap.size = S := ⟨_, rfl⟩
  rw [hS] at HS HB1 hz1 HX ⊢
  clear hs hb1
  go_wp2_with fail
  have hs0 : Src (w1.alloc (.cells #[] 46)) S A n cap 0 := HS.out.kept (World.grownBy_alloc w1 _ none) (by simp)
  have hb0 : Below S w (w1.alloc (.cells #[] 46)) := HB1.out.alloc (by omega) _
  have ho0 : Ow (w1.alloc (.cells #[] 46)) (S + 1) 46 (.slice (some ⟨S + 1, 0, none⟩) 0 0) ((([] : List Int).map qW).map (Value.float .f32)) := by
    have h := own_empty w1 w1.heap.size 46 (Nat.le_refl _)
    rw [hz1] at h
    exact h
  go_loopw [1, 6] (fun i v wr => ∃ (k : Nat) (xs : List Int), k ≤ q ∧ i = .int .i64 (k : Int) ∧ xs.length + k = q ∧ (∀ x ∈ xs, -16 ≤ x ∧ x ≤ 16) ∧ Ow wr (S + 1) 46 v ((xs.map qW).map (Value.float .f32)) ∧ Hid (Src wr S A n cap (0 + xs.length)) ∧ Hid (Below S w wr) ∧ S + 1 ≤ wr.heap.size) (fun i _ _ => (intOf i).toNat)
  case atStart => exact ⟨q, [], Nat.le_refl _, rfl, by simp, by simp, ho0, Lib.hid hs0, Lib.hid hb0, by simp; omega⟩
  case round =>
    clear hs0 hb0 ho0
    obtain ⟨k, xs, hk, rfl, hlen, hlow, ho, HS2, HB2, hz2⟩ := hrel
    obtain ⟨w2, rfl⟩ : ∃ w2 : World, w2 = wr := ⟨_, rfl⟩
    by_cases hk0 : k = 0
    · subst hk0
      have hz : Value.int .i64 ((0 : Nat) : Int) = .int .i64 0 := rfl
      rw [hz]
      go_wp2
      go_ret
      exact ⟨_, xs, rfl, by omega, hlow, own_base ho (by rw [hS]; omega), by rw [hS]; exact HB2.out⟩
    · have hpk := pick_c w2 S S A n cap (0 + xs.length) c hl hn HB.out (HX.out.below HB2.out) (Nat.le_refl _) (by omega) HS2.out 33 (by decide) (by decide)
      have HPK := Lib.hid hpk
      have HO := Lib.hid ho
      have HLW := Lib.hid hlow
      have hlen2 : ((xs.map qW).map (Value.float .f32)).length + 1 ≤ 1099511627776 := by rw [List.length_map, List.length_map]; omega
      clear hpk ho hlow
      go_wp2_with fail
      refine HPK.out.mono ?_
      rintro e w3 ⟨x, rfl, hx0, hx1, hs3, hg3⟩
      obtain ⟨f0, hlw⟩ := qx_ok hx0 hx1
      have f1 := fun t d => fres_vop f0 t d
      have hvq : vop .quo (floatOfInt .f32 (x - 16)) 1082130432 = qW (x - 16) := by unfold vop; rw [f0]; rfl
      have HVQ := Lib.hid hvq
      clear hvq
      have f2 : fdr .quo .f32 (floatOfInt .f32 (x - 16)) 1082130432 = 0 := by simp [fdr, f0]
      have hz3 := hg3.size
      have ho3 := HO.out.kept hg3 (own_ne HO.out (Nat.lt_succ_self _))
      have HS3 := Lib.hid hs3
      have HB3 := Lib.hid (HB2.out.grown hg3 (by omega) (fun k hk => by cases hk; exact Nat.le_refl _))
      clear hs3 hg3 HPK f0
      go_wp2_with (at_builtin; go_must (refine app1 Try.underlying25 infoFloat32 rfl (by decide) rfl _ _ rfl _ _ _ rfl (own_dalloc' ho3 _) _ _ _ rfl (cell_new1 _ _ _) rfl hlen2 (by simp; omega) ?_); intro v' w4 ho4 hb4)
      go_roundw
      case rel =>
        rw [HVQ.out] at ho4
        have hbb := ((below_of_drewN (S + 1) w3 0).alloc (show S + 1 ≤ w3.heap.size from Nat.le_trans hz2 hz3) (.cells #[.float .f32 (vop BinOp.quo (floatOfInt FloatKind.f32 (x - 16)) 1082130432)] 46)).trans hb4
        have hz4 : S + 1 ≤ w4.heap.size := Nat.le_trans hz2 (Nat.le_trans hz3 hbb.size)
        refine ⟨k - 1, xs ++ [x - 16], by omega, by go_num, by rw [List.length_append]; simp; omega, ?_, by rw [List.map_append, List.map_append]; exact ho4, Lib.hid ?_, Lib.hid (HB3.out.trans (hbb.mono (Nat.le_succ S))), hz4⟩
        · intro y hy
          rcases List.mem_append.1 hy with hy | hy
          · exact HLW.out y hy
          · rw [List.mem_singleton.1 hy]
            omega
        · rw [List.length_append]
          exact HS3.out.below hbb (Nat.lt_succ_self _)
      case measure => simp [intOf]; omega


/-- what the loop over masks keeps -/
def CdInv (w : World) (D S P R : Nat) (A : Option Addr) (n cap M : Nat) (N : Nat) (v : Value) (ms : List Int) (W : World) : Prop :=
  Obj W P 29 #[.int .i64 (M : Int), v] ∧ Hid (Ow W (P + 1) 2 v (ms.map (Value.int .i64))) ∧ Obj W R 29 #[.int .i64 0, .slice none 0 0] ∧ Hid (Src W S A n cap (2 + ms.length)) ∧ Hid (Below D w W) ∧ (∀ x ∈ ms, 1 ≤ x ∧ x < 2 ^ (M + 1)) ∧ P + 1 ≤ W.heap.size ∧ ms.length ≤ N
theorem cd_app {M : Nat} (hM3 : M ≤ 3) {w W w9 : World} {D S P R n cap N : Nat} {A : Option Addr} {v : Value} {ms : List Int} (h : CdInv w D S P R A n cap M N v ms W) (hD : D ≤ S) (hSP : S < P) (hR : R < P) (hRS : R ≠ S) (_hDR : D ≤ R) {x : Int} (hx0 : 0 ≤ x) (hx1 : x < 2 ^ (M + 1) - 1) (hN : ms.length + 1 ≤ N)
    (hs9 : Src w9 S A n cap (2 + ms.length + 1)) (hg9 : W.drew.grownBy w9 (some S)) :
    w9.cell? ⟨P, 1, none⟩ = some v ∧ (w9.alloc (.cells #[.int .i64 (1 + x)] 2)).cell? ⟨P, 1, none⟩ = some v ∧ Ow (w9.alloc (.cells #[.int .i64 (1 + x)] 2)) (P + 1) 2 v (ms.map (Value.int .i64)) ∧ P + 1 ≤ (w9.alloc (.cells #[.int .i64 (1 + x)] 2)).heap.size ∧ IntKind.i64.wrap (1 + x) = 1 + x ∧
      ∀ (v6 : Value) (w6 : World), Ow w6 (P + 1) 2 v6 (ms.map (Value.int .i64) ++ [.int .i64 (1 + x)]) → (w9.alloc (.cells #[.int .i64 (1 + x)] 2)).grownBy w6 v.ownBlock →
        w6.cell? ⟨P, 1, none⟩ = some v ∧ w6.frozen? ⟨P, 1, none⟩ = false ∧ CdInv w D S P R A n cap M N v6 (ms ++ [1 + x]) (w6.setCell ⟨P, 1, none⟩ v6) := by
  obtain ⟨hO, hO2, hRo, hS, hB, hms, hPW, _⟩ := h
  have hM16 : (2 : Int) ^ (M + 1) ≤ 16 := by
    have h4 : M = 0 ∨ M = 1 ∨ M = 2 ∨ M = 3 := by omega
    rcases h4 with rfl | rfl | rfl | rfl <;> decide
  have hz9 : W.heap.size ≤ w9.heap.size := hg9.size
  have O9 : Obj w9 P 29 #[.int .i64 (M : Int), v] := Obj.kept (show Obj W.drew P 29 _ from hO) hg9 (by simp; omega)
  have R9 : Obj w9 R 29 #[.int .i64 0, .slice none 0 0] := Obj.kept (show Obj W.drew R 29 _ from hRo) hg9 (by simp; omega)
  have w9o : Ow w9 (P + 1) 2 v (ms.map (Value.int .i64)) := World.ownsRow.kept (w := W.drew) hO2.out hg9 (own_ne (w := W.drew) hO2.out (by omega))
  have Oa := O9.alloc (.cells #[.int .i64 (1 + x)] 2)
  have Ra := R9.alloc (.cells #[.int .i64 (1 + x)] 2)
  have wa : Ow (w9.alloc (.cells #[.int .i64 (1 + x)] 2)) (P + 1) 2 v (ms.map (Value.int .i64)) := World.ownsRow.alloc w9o _
  have hBd : Below D w w9 := hB.out.grown (show W.grownBy w9 (some S) from ⟨hg9.os, hg9.tape, hg9.output, hg9.size, hg9.block⟩) (by have := hB.out.size; omega) (fun k hk => by cases hk; exact hD)
  refine ⟨O9.cell 1, Oa.cell 1, wa, by simp; omega, ?_, fun v6 w6 h6 hg6 => ?_⟩
  · exact IntWalk.i64_in _ (by omega)
  have hnr : ∀ (b : Nat) (cs : Array Value), Obj (w9.alloc (.cells #[.int .i64 (1 + x)] 2)) b 29 cs → Obj w6 b 29 cs := fun b cs hb => hb.kept hg6 (Obj.not_row hb (by decide) wa)
  have O6 := hnr P _ Oa
  have R6 := hnr R _ Ra
  have S6 : Src w6 S A n cap (2 + ms.length + 1) := (hs9.kept (World.grownBy_alloc w9 _ none) (by simp)).kept hg6 (by
    rcases own_ne wa (S := S) (by omega) with h | h
    · rw [h]; simp
    · exact h)
  have B6 : Below D w w6 := (hBd.alloc (by omega) _).grown hg6 (by simp; omega) (fun k hk => by have := (World.ownsRow.lt wa k hk).1; omega)
  refine ⟨O6.cell 1, O6.frozen 1, by simpa using O6.set 1 v6, Lib.hid ?_, R6.far (by omega) 1 v6, Lib.hid ?_, Lib.hid (below_put B6 (by omega) 1 v6), ?_, ?_, by rw [List.length_append, List.length_singleton]; exact hN⟩
  · rw [List.map_append]
    exact ownsRow_setCell_below h6 (a := ⟨P, 1, none⟩) (by simp) v6
  · rw [List.length_append, List.length_singleton]
    exact (S6.kept (grownBy_set w6 P 1 v6) (by simp; omega))
  · intro y hy
    rcases List.mem_append.1 hy with hy | hy
    · exact hms y hy
    · rw [List.mem_singleton.1 hy]
      omega
  · have := hg6.size
    simp at this ⊢
    omega

set_option maxRecDepth 100000 in
set_option maxHeartbeats 8000000 in
theorem l07DrawCoderOk_c (w : World) (S D : Nat) (A : Option Addr) (n cap : Nat) (c : List Int) (hl : c.length = n) (hn : n ≤ 1048576) (hb : ∀ x ∈ c, 0 ≤ x ∧ x ≤ 255) (hx : Sl w D A (c.map (Value.int .u8))) (hD : D ≤ S) (ho : Src w S A n cap 0) :
    Calls Try.prog 56 #[.pointer (some ⟨S, 0, none⟩)] w fun e w' => ∃ (M : Nat) (v : Value) (ms : List Int), e = .returned (.agg #[.int .i64 (M : Int), v]) ∧ 1 ≤ M ∧ M ≤ 3 ∧ 1 ≤ ms.length ∧ ms.length ≤ 3 ∧ (∀ x ∈ ms, 1 ≤ x ∧ x < 2 ^ (M + 1)) ∧ Ow w' D 2 v (ms.map (Value.int .i64)) ∧ Below D w w' := by
  have HX := Lib.hid hx
  have HB := Lib.hid hb
  have hSw := ho.lt
  obtain ⟨R, hR⟩ : ∃ R, w.heap.size = R := ⟨_, rfl⟩
  obtain ⟨w1, ew1⟩ : ∃ q : World, q = w.alloc (.cells #[.int .i64 0, .slice none 0 0] 29) := ⟨_, rfl⟩
  have hR1 : Obj w1 R 29 #[.int .i64 0, .slice none 0 0] := by rw [ew1, ← hR]; exact Obj.new _ _ _
  have hb1 : Below D w w1 := by rw [ew1]; exact (Below.refl _ _).alloc (by omega) _
  have hz1 : w1.heap.size = R + 1 := by rw [ew1, ← hR]; simp
  have hs1 : Src w1 S A n cap 0 := by rw [ew1]; exact ho.kept (World.grownBy_alloc w _ none) (by simp)
  have hpk := pick_c w1 S D A n cap 0 c hl hn HB.out (HX.out.below hb1) hD (by decide) hs1 3 (by decide) (by decide)
  have HPK := Lib.hid hpk
  have HB1 := Lib.hid hb1
  clear hx hb ho hpk hs1 hb1
  go_enter Try.func56, Try.ntmps56
  rw [hR] at hSw
  go_wp2_with (rw [← ew1]; clear ew1)
  refine HPK.out.mono ?_
  rintro e w2 ⟨x, rfl, hx0, hx3, hs2, hg2⟩
  obtain ⟨M, hM⟩ : ∃ M : Nat, 1 + x = (M : Int) := ⟨(1 + x).toNat, by omega⟩
  have hM1 : 1 ≤ M := by omega
  have hM3 : M ≤ 3 := by omega
  have hR2 := hR1.kept hg2 (by simp; omega)
  have hz2 := hg2.size
  have HB2 := Lib.hid (HB1.out.grown hg2 (by omega) (fun k hk => by cases hk; exact hD))
  have HS2 := Lib.hid hs2
  clear HPK HB1 hs2 hg2 hR1
  go_wp2_with fail
  obtain ⟨P, hP⟩ : ∃ P, w2.heap.size = P := ⟨_, rfl⟩
  rw [hP]
  obtain ⟨w3, ew3⟩ : ∃ q : World, q = w2.alloc (.cells #[.int .i64 (M : Int), .slice none 0 0] 29) := ⟨_, rfl⟩
  rw [← ew3]
  have hP3 : Obj w3 P 29 #[.int .i64 (M : Int), .slice none 0 0] := by rw [ew3, ← hP]; exact Obj.new _ _ _
  have hz3 : w3.heap.size = P + 1 := by rw [ew3]; simp [hP]
  have hR3 : Obj w3 R 29 #[.int .i64 0, .slice none 0 0] := by rw [ew3]; exact hR2.alloc _
  have hs3 : Src w3 S A n cap 1 := by rw [ew3]; exact HS2.out.kept (World.grownBy_alloc w2 _ none) (by simp)
  have hb3 : Below D w w3 := by rw [ew3]; exact HB2.out.alloc (by omega) _
  have hSP : S < P := by omega
  have hRP : R < P := by omega
  have hpk := pick_c w3 S D A n cap 1 c hl hn HB.out (HX.out.below hb3) hD (by decide) hs3 3 (by decide) (by decide)
  have HPK := Lib.hid hpk
  have HB3 := Lib.hid hb3
  clear hpk hb3 hs3 ew3 hR2 HS2 HB2
  refine HPK.out.mono ?_
  rintro e w4 ⟨x2, rfl, hx20, hx25, hs4, hg4⟩
  obtain ⟨N, hN⟩ : ∃ N : Nat, 1 + x2 = (N : Int) := ⟨(1 + x2).toNat, by omega⟩
  have hN1 : 1 ≤ N := by omega
  have hN3 : N ≤ 3 := by omega
  have hR4 := hR3.kept hg4 (by simp; omega)
  have hP4 := hP3.kept hg4 (by simp; omega)
  have hz4 : P + 1 ≤ w4.heap.size := by have := hg4.size; omega
  have HB4 := Lib.hid (HB3.out.grown hg4 (by omega) (fun k hk => by cases hk; exact hD))
  have HS4 := Lib.hid hs4
  have hRS : R ≠ S := by omega
  have hDR : D ≤ R := by omega
  clear HPK HB3 hs4 hg4 hR3 hP3 hz1 hz2 hP hz3 hR
  go_wp2_with fail
  go_loopw [4] (fun i wr => ∃ (k : Nat) (v : Value) (ms : List Int), i = .int .i64 (k : Int) ∧ ms.length + k = N ∧ CdInv w D S P R A n cap M N v ms wr) (fun i _ => (intOf i).toNat)
  case atStart => exact ⟨N, _, [], rfl, by simp, hP4, Lib.hid ⟨rfl, .inl ⟨rfl, rfl⟩⟩, hR4, HS4, HB4, (fun x hx => absurd hx (by simp)), hz4, Nat.zero_le _⟩
  case round =>
    clear hP4 hR4 HS4 HB4 hz4
    obtain ⟨k, v, ms, rfl, hlen, hI⟩ := hrel
    obtain ⟨w6, rfl⟩ : ∃ w6 : World, w6 = wr := ⟨_, rfl⟩
    have HI := Lib.hid hI
    obtain ⟨hPo, HO, hRo, HS, HBw, HMS, hz, hNl⟩ := hI
    obtain ⟨⟨g0, g1⟩, g2, g3⟩ := hPo.two
    have hwz := hRo.lt
    obtain ⟨V, kv, rfl, hpv⟩ := HO.out.opn
    try rw [List.length_map] at g1
    try rw [List.length_map] at hpv
    try rw [List.length_map] at HI
    try rw [List.length_map]
    have HMS := Lib.hid HMS
    clear hpv hPo
    by_cases hk0 : k = 0
    · subst hk0
      obtain ⟨⟨q0, q1⟩, q2, q3⟩ := hRo.two
      clear hRo
      go_wp2_with fail
      refine bodyPost_ret (v := .agg #[.int .i64 (M : Int), .slice V ms.length kv]) (by unfold results; rw [Try.results56]; go_simp) rfl ?_
      have ho1 : Ow w6 (P + 1) 2 (.slice V ms.length kv) (ms.map (Value.int .i64)) := HI.out.2.1.out
      refine ⟨M, _, ms, rfl, hM1, hM3, by omega, by omega, HMS.out, own_base (ownsRow_setCell_below (ownsRow_setCell_below ho1 (a := ⟨R, 0, none⟩) (by simp; omega) _) (a := ⟨R, 1, none⟩) (by simp; omega) _) (by omega), below_put (below_put HBw.out (by omega) 0 _) (by omega) 1 _⟩
    · have hk1 : decide ((k : Int) > 0) = true := decide_eq_true (by omega)
      have hk2 : decide (0 < k) = true := decide_eq_true (by omega)
      have hlen1 : (ms.map (Value.int .i64)).length + 1 ≤ 1099511627776 := by rw [List.length_map]; omega
      have hxd := HX.out.below (below_drewN HBw.out 1)
      have hsd : Src w6.drew S A n cap (2 + ms.length) := HS.out
      clear hRo
      have hM : M = 1 ∨ M = 2 ∨ M = 3 := by omega
      rcases hM with rfl | rfl | rfl
      · have HPK := Lib.hid (pick_c w6.drew S D A n cap (2 + ms.length) c hl hn HB.out hxd hD (by omega) hsd 3 (by decide) (by decide))
        have HAP := Lib.hid fun (x : Int) (w9 : World) (h0 : 0 ≤ x) (h1 : x < 3) (h2 : Src w9 S A n cap (2 + ms.length + 1)) (h3 : w6.drew.grownBy w9 (some S)) => cd_app (M := 1) (by decide) HI.out hD hSP hRP hRS hDR h0 (by rw [show (2 : Int) ^ (1 + 1) - 1 = 3 by decide]; exact h1) (by omega) h2 h3
        have hlen' := hlen
        have hlen := hlen1
        have g0 : w6.cell? ⟨P, 0, none⟩ = some (.int .i64 1) := g0
        clear hxd hsd
        rw [show ((1 : Nat) : Int) = (1 : Int) from rfl]
        go_wp2_with fail
        refine wp_region_noPanic ?_
        refine wp_region_any (by kernel_rfl) ?_
        change wpAny _ _ _ _ _ _ _ (World.drew _)
        refine wpAny_take (i := 0) (v := .pointer (some ⟨P, 1, none⟩)) rfl (by kernel_rfl) (by kernel_rfl) (by kernel_rfl) (fun _ _ _ h => h) (Or.inl ⟨by rfl, fun w' => by go_simp⟩) ?_
        refine wpAny_take (i := 2) (v := .pointer (some ⟨S, 0, none⟩)) rfl (by kernel_rfl) (by kernel_rfl) (by kernel_rfl) (fun _ _ _ h => h) (Or.inl ⟨by rfl, fun w' => by go_simp⟩) ?_
        refine wpAny_take (i := 3) (v := .pointer (some ⟨P, 0, none⟩)) rfl (by kernel_rfl) (by kernel_rfl) (by kernel_rfl) (fun _ _ _ h => h) (Or.inl ⟨by rfl, fun w' => by go_simp⟩) ?_
        refine wpAny_ready (rs := [1, 4]) (by kernel_rfl) (by simp) ?_
        refine AllReady.cons rfl (fun K9 hK9 => ?_) ?_
        · go_simp
          refine hK9 _ _ ?_
          clear hK9 K9
          refine wpAny_ready (rs := [4]) (by kernel_rfl) (by simp) ?_
          refine AllReady.cons rfl (fun K9 hK9 => ?_) ?_
          · go_simp
            refine hK9 _ _ ?_
            clear hK9 K9
            refine wpAny_take (i := 5) (v := .int .i64 4) rfl (by kernel_rfl) (by kernel_rfl) (by kernel_rfl) (fun _ _ _ h => h) (Or.inl ⟨by rfl, fun w' => by go_simp; rfl⟩) ?_
            refine wpAny_take (i := 6) (v := .int .i64 3) rfl (by kernel_rfl) (by kernel_rfl) (by kernel_rfl) (fun _ _ _ h => h) (Or.inl ⟨by rfl, fun w' => by go_simp; rfl⟩) ?_
            refine wpAny_ready (rs := [7]) (by kernel_rfl) (by simp) ?_
            refine AllReady.cons rfl (fun K9 hK9 => ?_) ?_
            · go_simp
              refine HPK.out.mono ?_
              rintro e w9 ⟨x, rfl, hx0, hx1, hs9, hg9⟩
              obtain ⟨c9, c9a, how9, hdb9, hwx, happ⟩ := HAP.out x w9 hx0 hx1 hs9 hg9
              clear hs9 hg9
              go_simp
              refine hK9 _ _ ?_
              clear hK9 K9
              refine wpAny_take (i := 8) (v := .int .i64 (1 + x)) rfl (by kernel_rfl) (by kernel_rfl) (by kernel_rfl) (fun _ _ _ h => h) (Or.inl ⟨by rfl, fun w' => by go_simp⟩) ?_
              refine wpAny_ready (rs := [9]) (by kernel_rfl) (by simp) ?_
              refine AllReady.cons rfl (fun K9 hK9 => ?_) ?_
              · go_simp
                refine hK9 _ _ ?_
                clear hK9 K9
                refine wpAny_ready (rs := [10]) (by kernel_rfl) (by simp) ?_
                refine AllReady.cons rfl (fun K9 hK9 => ?_) ?_
                · refine step_app1 Try.underlying22 infoInt64 rfl (by decide) (by rfl) _ _ (by rfl) (P + 1) (.slice V ms.length kv) _ (by rfl) how9 _ _ (.int .i64 (1 + x)) (by rfl) (cell_new1 _ _ _) rfl hlen hdb9 ?_
                  intro v6 w6 ho6 hg6
                  have ho7 : Ow w6 (P + 1) 2 v6 ((ms ++ [1 + x]).map (Value.int .i64)) := by rw [List.map_append]; exact ho6
                  obtain ⟨V6, k6, rfl, -⟩ := ho7.opn
                  obtain ⟨c6n, f6n, hfin⟩ := happ _ w6 ho6 hg6
                  refine hK9 _ _ ?_
                  clear hK9 K9
                  refine wpAny_take (i := 11) (v := .pointer (some ⟨P, 1, none⟩)) rfl (by kernel_rfl) (by kernel_rfl) (by kernel_rfl) (fun _ _ _ h => h) (Or.inl ⟨by rfl, fun w' => by go_simp⟩) ?_
                  refine wpAny_ready (rs := [12]) (by kernel_rfl) (by simp) ?_
                  refine AllReady.cons rfl (fun K9 hK9 => ?_) ?_
                  · go_simp
                    refine hK9 _ _ ?_
                    clear hK9 K9
                    refine wpAny_done (by kernel_rfl) ?_ _
                    simp only [NoPanic]
                    go_wp2_with fail
                    go_roundw
                    case rel => exact ⟨k - 1, _, ms ++ [1 + x], by go_num, by rw [List.length_append, List.length_singleton]; omega, by rw [List.length_append, List.length_singleton] at hfin; exact hfin⟩
                    case measure => simp [intOf]; omega
                  exact AllReady.nil
                exact AllReady.nil
              exact AllReady.nil
            exact AllReady.nil
          exact AllReady.nil
        refine AllReady.cons rfl (fun K9 hK9 => ?_) ?_
        · go_simp
          refine hK9 _ _ ?_
          clear hK9 K9
          refine wpAny_take (i := 5) (v := .int .i64 4) rfl (by kernel_rfl) (by kernel_rfl) (by kernel_rfl) (fun _ _ _ h => h) (Or.inl ⟨by rfl, fun w' => by go_simp; rfl⟩) ?_
          refine wpAny_take (i := 6) (v := .int .i64 3) rfl (by kernel_rfl) (by kernel_rfl) (by kernel_rfl) (fun _ _ _ h => h) (Or.inl ⟨by rfl, fun w' => by go_simp; rfl⟩) ?_
          refine wpAny_ready (rs := [1, 7]) (by kernel_rfl) (by simp) ?_
          refine AllReady.cons rfl (fun K9 hK9 => ?_) ?_
          · go_simp
            refine hK9 _ _ ?_
            clear hK9 K9
            refine wpAny_ready (rs := [7]) (by kernel_rfl) (by simp) ?_
            refine AllReady.cons rfl (fun K9 hK9 => ?_) ?_
            · go_simp
              refine HPK.out.mono ?_
              rintro e w9 ⟨x, rfl, hx0, hx1, hs9, hg9⟩
              obtain ⟨c9, c9a, how9, hdb9, hwx, happ⟩ := HAP.out x w9 hx0 hx1 hs9 hg9
              clear hs9 hg9
              go_simp
              refine hK9 _ _ ?_
              clear hK9 K9
              refine wpAny_take (i := 8) (v := .int .i64 (1 + x)) rfl (by kernel_rfl) (by kernel_rfl) (by kernel_rfl) (fun _ _ _ h => h) (Or.inl ⟨by rfl, fun w' => by go_simp⟩) ?_
              refine wpAny_ready (rs := [9]) (by kernel_rfl) (by simp) ?_
              refine AllReady.cons rfl (fun K9 hK9 => ?_) ?_
              · go_simp
                refine hK9 _ _ ?_
                clear hK9 K9
                refine wpAny_ready (rs := [10]) (by kernel_rfl) (by simp) ?_
                refine AllReady.cons rfl (fun K9 hK9 => ?_) ?_
                · refine step_app1 Try.underlying22 infoInt64 rfl (by decide) (by rfl) _ _ (by rfl) (P + 1) (.slice V ms.length kv) _ (by rfl) how9 _ _ (.int .i64 (1 + x)) (by rfl) (cell_new1 _ _ _) rfl hlen hdb9 ?_
                  intro v6 w6 ho6 hg6
                  have ho7 : Ow w6 (P + 1) 2 v6 ((ms ++ [1 + x]).map (Value.int .i64)) := by rw [List.map_append]; exact ho6
                  obtain ⟨V6, k6, rfl, -⟩ := ho7.opn
                  obtain ⟨c6n, f6n, hfin⟩ := happ _ w6 ho6 hg6
                  refine hK9 _ _ ?_
                  clear hK9 K9
                  refine wpAny_take (i := 11) (v := .pointer (some ⟨P, 1, none⟩)) rfl (by kernel_rfl) (by kernel_rfl) (by kernel_rfl) (fun _ _ _ h => h) (Or.inl ⟨by rfl, fun w' => by go_simp⟩) ?_
                  refine wpAny_ready (rs := [12]) (by kernel_rfl) (by simp) ?_
                  refine AllReady.cons rfl (fun K9 hK9 => ?_) ?_
                  · go_simp
                    refine hK9 _ _ ?_
                    clear hK9 K9
                    refine wpAny_done (by kernel_rfl) ?_ _
                    simp only [NoPanic]
                    go_wp2_with fail
                    go_roundw
                    case rel => exact ⟨k - 1, _, ms ++ [1 + x], by go_num, by rw [List.length_append, List.length_singleton]; omega, by rw [List.length_append, List.length_singleton] at hfin; exact hfin⟩
                    case measure => simp [intOf]; omega
                  exact AllReady.nil
                exact AllReady.nil
              exact AllReady.nil
            exact AllReady.nil
          refine AllReady.cons rfl (fun K9 hK9 => ?_) ?_
          · go_simp
            refine HPK.out.mono ?_
            rintro e w9 ⟨x, rfl, hx0, hx1, hs9, hg9⟩
            obtain ⟨c9, c9a, how9, hdb9, hwx, happ⟩ := HAP.out x w9 hx0 hx1 hs9 hg9
            clear hs9 hg9
            go_simp
            refine hK9 _ _ ?_
            clear hK9 K9
            refine wpAny_take (i := 8) (v := .int .i64 (1 + x)) rfl (by kernel_rfl) (by kernel_rfl) (by kernel_rfl) (fun _ _ _ h => h) (Or.inl ⟨by rfl, fun w' => by go_simp⟩) ?_
            refine wpAny_ready (rs := [1, 9]) (by kernel_rfl) (by simp) ?_
            refine AllReady.cons rfl (fun K9 hK9 => ?_) ?_
            · go_simp
              refine hK9 _ _ ?_
              clear hK9 K9
              refine wpAny_ready (rs := [9]) (by kernel_rfl) (by simp) ?_
              refine AllReady.cons rfl (fun K9 hK9 => ?_) ?_
              · go_simp
                refine hK9 _ _ ?_
                clear hK9 K9
                refine wpAny_ready (rs := [10]) (by kernel_rfl) (by simp) ?_
                refine AllReady.cons rfl (fun K9 hK9 => ?_) ?_
                · refine step_app1 Try.underlying22 infoInt64 rfl (by decide) (by rfl) _ _ (by rfl) (P + 1) (.slice V ms.length kv) _ (by rfl) how9 _ _ (.int .i64 (1 + x)) (by rfl) (cell_new1 _ _ _) rfl hlen hdb9 ?_
                  intro v6 w6 ho6 hg6
                  have ho7 : Ow w6 (P + 1) 2 v6 ((ms ++ [1 + x]).map (Value.int .i64)) := by rw [List.map_append]; exact ho6
                  obtain ⟨V6, k6, rfl, -⟩ := ho7.opn
                  obtain ⟨c6n, f6n, hfin⟩ := happ _ w6 ho6 hg6
                  refine hK9 _ _ ?_
                  clear hK9 K9
                  refine wpAny_take (i := 11) (v := .pointer (some ⟨P, 1, none⟩)) rfl (by kernel_rfl) (by kernel_rfl) (by kernel_rfl) (fun _ _ _ h => h) (Or.inl ⟨by rfl, fun w' => by go_simp⟩) ?_
                  refine wpAny_ready (rs := [12]) (by kernel_rfl) (by simp) ?_
                  refine AllReady.cons rfl (fun K9 hK9 => ?_) ?_
                  · go_simp
                    refine hK9 _ _ ?_
                    clear hK9 K9
                    refine wpAny_done (by kernel_rfl) ?_ _
                    simp only [NoPanic]
                    go_wp2_with fail
                    go_roundw
                    case rel => exact ⟨k - 1, _, ms ++ [1 + x], by go_num, by rw [List.length_append, List.length_singleton]; omega, by rw [List.length_append, List.length_singleton] at hfin; exact hfin⟩
                    case measure => simp [intOf]; omega
                  exact AllReady.nil
                exact AllReady.nil
              exact AllReady.nil
            refine AllReady.cons rfl (fun K9 hK9 => ?_) ?_
            · go_simp
              refine hK9 _ _ ?_
              clear hK9 K9
              refine wpAny_ready (rs := [1]) (by kernel_rfl) (by simp) ?_
              refine AllReady.cons rfl (fun K9 hK9 => ?_) ?_
              · go_simp
                refine hK9 _ _ ?_
                clear hK9 K9
                refine wpAny_ready (rs := [10]) (by kernel_rfl) (by simp) ?_
                refine AllReady.cons rfl (fun K9 hK9 => ?_) ?_
                · refine step_app1 Try.underlying22 infoInt64 rfl (by decide) (by rfl) _ _ (by rfl) (P + 1) (.slice V ms.length kv) _ (by rfl) how9 _ _ (.int .i64 (1 + x)) (by rfl) (cell_new1 _ _ _) rfl hlen hdb9 ?_
                  intro v6 w6 ho6 hg6
                  have ho7 : Ow w6 (P + 1) 2 v6 ((ms ++ [1 + x]).map (Value.int .i64)) := by rw [List.map_append]; exact ho6
                  obtain ⟨V6, k6, rfl, -⟩ := ho7.opn
                  obtain ⟨c6n, f6n, hfin⟩ := happ _ w6 ho6 hg6
                  refine hK9 _ _ ?_
                  clear hK9 K9
                  refine wpAny_take (i := 11) (v := .pointer (some ⟨P, 1, none⟩)) rfl (by kernel_rfl) (by kernel_rfl) (by kernel_rfl) (fun _ _ _ h => h) (Or.inl ⟨by rfl, fun w' => by go_simp⟩) ?_
                  refine wpAny_ready (rs := [12]) (by kernel_rfl) (by simp) ?_
                  refine AllReady.cons rfl (fun K9 hK9 => ?_) ?_
                  · go_simp
                    refine hK9 _ _ ?_
                    clear hK9 K9
                    refine wpAny_done (by kernel_rfl) ?_ _
                    simp only [NoPanic]
                    go_wp2_with fail
                    go_roundw
                    case rel => exact ⟨k - 1, _, ms ++ [1 + x], by go_num, by rw [List.length_append, List.length_singleton]; omega, by rw [List.length_append, List.length_singleton] at hfin; exact hfin⟩
                    case measure => simp [intOf]; omega
                  exact AllReady.nil
                exact AllReady.nil
              exact AllReady.nil
            exact AllReady.nil
          exact AllReady.nil
        exact AllReady.nil
      · have HPK := Lib.hid (pick_c w6.drew S D A n cap (2 + ms.length) c hl hn HB.out hxd hD (by omega) hsd 7 (by decide) (by decide))
        have HAP := Lib.hid fun (x : Int) (w9 : World) (h0 : 0 ≤ x) (h1 : x < 7) (h2 : Src w9 S A n cap (2 + ms.length + 1)) (h3 : w6.drew.grownBy w9 (some S)) => cd_app (M := 2) (by decide) HI.out hD hSP hRP hRS hDR h0 (by rw [show (2 : Int) ^ (2 + 1) - 1 = 7 by decide]; exact h1) (by omega) h2 h3
        have hlen' := hlen
        have hlen := hlen1
        have g0 : w6.cell? ⟨P, 0, none⟩ = some (.int .i64 2) := g0
        clear hxd hsd
        rw [show ((2 : Nat) : Int) = (2 : Int) from rfl]
        go_wp2_with fail
        refine wp_region_noPanic ?_
        refine wp_region_any (by kernel_rfl) ?_
        change wpAny _ _ _ _ _ _ _ (World.drew _)
        refine wpAny_take (i := 0) (v := .pointer (some ⟨P, 1, none⟩)) rfl (by kernel_rfl) (by kernel_rfl) (by kernel_rfl) (fun _ _ _ h => h) (Or.inl ⟨by rfl, fun w' => by go_simp⟩) ?_
        refine wpAny_take (i := 2) (v := .pointer (some ⟨S, 0, none⟩)) rfl (by kernel_rfl) (by kernel_rfl) (by kernel_rfl) (fun _ _ _ h => h) (Or.inl ⟨by rfl, fun w' => by go_simp⟩) ?_
        refine wpAny_take (i := 3) (v := .pointer (some ⟨P, 0, none⟩)) rfl (by kernel_rfl) (by kernel_rfl) (by kernel_rfl) (fun _ _ _ h => h) (Or.inl ⟨by rfl, fun w' => by go_simp⟩) ?_
        refine wpAny_ready (rs := [1, 4]) (by kernel_rfl) (by simp) ?_
        refine AllReady.cons rfl (fun K9 hK9 => ?_) ?_
        · go_simp
          refine hK9 _ _ ?_
          clear hK9 K9
          refine wpAny_ready (rs := [4]) (by kernel_rfl) (by simp) ?_
          refine AllReady.cons rfl (fun K9 hK9 => ?_) ?_
          · go_simp
            refine hK9 _ _ ?_
            clear hK9 K9
            refine wpAny_take (i := 5) (v := .int .i64 8) rfl (by kernel_rfl) (by kernel_rfl) (by kernel_rfl) (fun _ _ _ h => h) (Or.inl ⟨by rfl, fun w' => by go_simp; rfl⟩) ?_
            refine wpAny_take (i := 6) (v := .int .i64 7) rfl (by kernel_rfl) (by kernel_rfl) (by kernel_rfl) (fun _ _ _ h => h) (Or.inl ⟨by rfl, fun w' => by go_simp; rfl⟩) ?_
            refine wpAny_ready (rs := [7]) (by kernel_rfl) (by simp) ?_
            refine AllReady.cons rfl (fun K9 hK9 => ?_) ?_
            · go_simp
              refine HPK.out.mono ?_
              rintro e w9 ⟨x, rfl, hx0, hx1, hs9, hg9⟩
              obtain ⟨c9, c9a, how9, hdb9, hwx, happ⟩ := HAP.out x w9 hx0 hx1 hs9 hg9
              clear hs9 hg9
              go_simp
              refine hK9 _ _ ?_
              clear hK9 K9
              refine wpAny_take (i := 8) (v := .int .i64 (1 + x)) rfl (by kernel_rfl) (by kernel_rfl) (by kernel_rfl) (fun _ _ _ h => h) (Or.inl ⟨by rfl, fun w' => by go_simp⟩) ?_
              refine wpAny_ready (rs := [9]) (by kernel_rfl) (by simp) ?_
              refine AllReady.cons rfl (fun K9 hK9 => ?_) ?_
              · go_simp
                refine hK9 _ _ ?_
                clear hK9 K9
                refine wpAny_ready (rs := [10]) (by kernel_rfl) (by simp) ?_
                refine AllReady.cons rfl (fun K9 hK9 => ?_) ?_
                · refine step_app1 Try.underlying22 infoInt64 rfl (by decide) (by rfl) _ _ (by rfl) (P + 1) (.slice V ms.length kv) _ (by rfl) how9 _ _ (.int .i64 (1 + x)) (by rfl) (cell_new1 _ _ _) rfl hlen hdb9 ?_
                  intro v6 w6 ho6 hg6
                  have ho7 : Ow w6 (P + 1) 2 v6 ((ms ++ [1 + x]).map (Value.int .i64)) := by rw [List.map_append]; exact ho6
                  obtain ⟨V6, k6, rfl, -⟩ := ho7.opn
                  obtain ⟨c6n, f6n, hfin⟩ := happ _ w6 ho6 hg6
                  refine hK9 _ _ ?_
                  clear hK9 K9
                  refine wpAny_take (i := 11) (v := .pointer (some ⟨P, 1, none⟩)) rfl (by kernel_rfl) (by kernel_rfl) (by kernel_rfl) (fun _ _ _ h => h) (Or.inl ⟨by rfl, fun w' => by go_simp⟩) ?_
                  refine wpAny_ready (rs := [12]) (by kernel_rfl) (by simp) ?_
                  refine AllReady.cons rfl (fun K9 hK9 => ?_) ?_
                  · go_simp
                    refine hK9 _ _ ?_
                    clear hK9 K9
                    refine wpAny_done (by kernel_rfl) ?_ _
                    simp only [NoPanic]
                    go_wp2_with fail
                    go_roundw
                    case rel => exact ⟨k - 1, _, ms ++ [1 + x], by go_num, by rw [List.length_append, List.length_singleton]; omega, by rw [List.length_append, List.length_singleton] at hfin; exact hfin⟩
                    case measure => simp [intOf]; omega
                  exact AllReady.nil
                exact AllReady.nil
              exact AllReady.nil
            exact AllReady.nil
          exact AllReady.nil
        refine AllReady.cons rfl (fun K9 hK9 => ?_) ?_
        · go_simp
          refine hK9 _ _ ?_
          clear hK9 K9
          refine wpAny_take (i := 5) (v := .int .i64 8) rfl (by kernel_rfl) (by kernel_rfl) (by kernel_rfl) (fun _ _ _ h => h) (Or.inl ⟨by rfl, fun w' => by go_simp; rfl⟩) ?_
          refine wpAny_take (i := 6) (v := .int .i64 7) rfl (by kernel_rfl) (by kernel_rfl) (by kernel_rfl) (fun _ _ _ h => h) (Or.inl ⟨by rfl, fun w' => by go_simp; rfl⟩) ?_
          refine wpAny_ready (rs := [1, 7]) (by kernel_rfl) (by simp) ?_
          refine AllReady.cons rfl (fun K9 hK9 => ?_) ?_
          · go_simp
            refine hK9 _ _ ?_
            clear hK9 K9
            refine wpAny_ready (rs := [7]) (by kernel_rfl) (by simp) ?_
            refine AllReady.cons rfl (fun K9 hK9 => ?_) ?_
            · go_simp
              refine HPK.out.mono ?_
              rintro e w9 ⟨x, rfl, hx0, hx1, hs9, hg9⟩
              obtain ⟨c9, c9a, how9, hdb9, hwx, happ⟩ := HAP.out x w9 hx0 hx1 hs9 hg9
              clear hs9 hg9
              go_simp
              refine hK9 _ _ ?_
              clear hK9 K9
              refine wpAny_take (i := 8) (v := .int .i64 (1 + x)) rfl (by kernel_rfl) (by kernel_rfl) (by kernel_rfl) (fun _ _ _ h => h) (Or.inl ⟨by rfl, fun w' => by go_simp⟩) ?_
              refine wpAny_ready (rs := [9]) (by kernel_rfl) (by simp) ?_
              refine AllReady.cons rfl (fun K9 hK9 => ?_) ?_
              · go_simp
                refine hK9 _ _ ?_
                clear hK9 K9
                refine wpAny_ready (rs := [10]) (by kernel_rfl) (by simp) ?_
                refine AllReady.cons rfl (fun K9 hK9 => ?_) ?_
                · refine step_app1 Try.underlying22 infoInt64 rfl (by decide) (by rfl) _ _ (by rfl) (P + 1) (.slice V ms.length kv) _ (by rfl) how9 _ _ (.int .i64 (1 + x)) (by rfl) (cell_new1 _ _ _) rfl hlen hdb9 ?_
                  intro v6 w6 ho6 hg6
                  have ho7 : Ow w6 (P + 1) 2 v6 ((ms ++ [1 + x]).map (Value.int .i64)) := by rw [List.map_append]; exact ho6
                  obtain ⟨V6, k6, rfl, -⟩ := ho7.opn
                  obtain ⟨c6n, f6n, hfin⟩ := happ _ w6 ho6 hg6
                  refine hK9 _ _ ?_
                  clear hK9 K9
                  refine wpAny_take (i := 11) (v := .pointer (some ⟨P, 1, none⟩)) rfl (by kernel_rfl) (by kernel_rfl) (by kernel_rfl) (fun _ _ _ h => h) (Or.inl ⟨by rfl, fun w' => by go_simp⟩) ?_
                  refine wpAny_ready (rs := [12]) (by kernel_rfl) (by simp) ?_
                  refine AllReady.cons rfl (fun K9 hK9 => ?_) ?_
                  · go_simp
                    refine hK9 _ _ ?_
                    clear hK9 K9
                    refine wpAny_done (by kernel_rfl) ?_ _
                    simp only [NoPanic]
                    go_wp2_with fail
                    go_roundw
                    case rel => exact ⟨k - 1, _, ms ++ [1 + x], by go_num, by rw [List.length_append, List.length_singleton]; omega, by rw [List.length_append, List.length_singleton] at hfin; exact hfin⟩
                    case measure => simp [intOf]; omega
                  exact AllReady.nil
                exact AllReady.nil
              exact AllReady.nil
            exact AllReady.nil
          refine AllReady.cons rfl (fun K9 hK9 => ?_) ?_
          · go_simp
            refine HPK.out.mono ?_
            rintro e w9 ⟨x, rfl, hx0, hx1, hs9, hg9⟩
            obtain ⟨c9, c9a, how9, hdb9, hwx, happ⟩ := HAP.out x w9 hx0 hx1 hs9 hg9
            clear hs9 hg9
            go_simp
            refine hK9 _ _ ?_
            clear hK9 K9
            refine wpAny_take (i := 8) (v := .int .i64 (1 + x)) rfl (by kernel_rfl) (by kernel_rfl) (by kernel_rfl) (fun _ _ _ h => h) (Or.inl ⟨by rfl, fun w' => by go_simp⟩) ?_
            refine wpAny_ready (rs := [1, 9]) (by kernel_rfl) (by simp) ?_
            refine AllReady.cons rfl (fun K9 hK9 => ?_) ?_
            · go_simp
              refine hK9 _ _ ?_
              clear hK9 K9
              refine wpAny_ready (rs := [9]) (by kernel_rfl) (by simp) ?_
              refine AllReady.cons rfl (fun K9 hK9 => ?_) ?_
              · go_simp
                refine hK9 _ _ ?_
                clear hK9 K9
                refine wpAny_ready (rs := [10]) (by kernel_rfl) (by simp) ?_
                refine AllReady.cons rfl (fun K9 hK9 => ?_) ?_
                · refine step_app1 Try.underlying22 infoInt64 rfl (by decide) (by rfl) _ _ (by rfl) (P + 1) (.slice V ms.length kv) _ (by rfl) how9 _ _ (.int .i64 (1 + x)) (by rfl) (cell_new1 _ _ _) rfl hlen hdb9 ?_
                  intro v6 w6 ho6 hg6
                  have ho7 : Ow w6 (P + 1) 2 v6 ((ms ++ [1 + x]).map (Value.int .i64)) := by rw [List.map_append]; exact ho6
                  obtain ⟨V6, k6, rfl, -⟩ := ho7.opn
                  obtain ⟨c6n, f6n, hfin⟩ := happ _ w6 ho6 hg6
                  refine hK9 _ _ ?_
                  clear hK9 K9
                  refine wpAny_take (i := 11) (v := .pointer (some ⟨P, 1, none⟩)) rfl (by kernel_rfl) (by kernel_rfl) (by kernel_rfl) (fun _ _ _ h => h) (Or.inl ⟨by rfl, fun w' => by go_simp⟩) ?_
                  refine wpAny_ready (rs := [12]) (by kernel_rfl) (by simp) ?_
                  refine AllReady.cons rfl (fun K9 hK9 => ?_) ?_
                  · go_simp
                    refine hK9 _ _ ?_
                    clear hK9 K9
                    refine wpAny_done (by kernel_rfl) ?_ _
                    simp only [NoPanic]
                    go_wp2_with fail
                    go_roundw
                    case rel => exact ⟨k - 1, _, ms ++ [1 + x], by go_num, by rw [List.length_append, List.length_singleton]; omega, by rw [List.length_append, List.length_singleton] at hfin; exact hfin⟩
                    case measure => simp [intOf]; omega
                  exact AllReady.nil
                exact AllReady.nil
              exact AllReady.nil
            refine AllReady.cons rfl (fun K9 hK9 => ?_) ?_
            · go_simp
              refine hK9 _ _ ?_
              clear hK9 K9
              refine wpAny_ready (rs := [1]) (by kernel_rfl) (by simp) ?_
              refine AllReady.cons rfl (fun K9 hK9 => ?_) ?_
              · go_simp
                refine hK9 _ _ ?_
                clear hK9 K9
                refine wpAny_ready (rs := [10]) (by kernel_rfl) (by simp) ?_
                refine AllReady.cons rfl (fun K9 hK9 => ?_) ?_
                · refine step_app1 Try.underlying22 infoInt64 rfl (by decide) (by rfl) _ _ (by rfl) (P + 1) (.slice V ms.length kv) _ (by rfl) how9 _ _ (.int .i64 (1 + x)) (by rfl) (cell_new1 _ _ _) rfl hlen hdb9 ?_
                  intro v6 w6 ho6 hg6
                  have ho7 : Ow w6 (P + 1) 2 v6 ((ms ++ [1 + x]).map (Value.int .i64)) := by rw [List.map_append]; exact ho6
                  obtain ⟨V6, k6, rfl, -⟩ := ho7.opn
                  obtain ⟨c6n, f6n, hfin⟩ := happ _ w6 ho6 hg6
                  refine hK9 _ _ ?_
                  clear hK9 K9
                  refine wpAny_take (i := 11) (v := .pointer (some ⟨P, 1, none⟩)) rfl (by kernel_rfl) (by kernel_rfl) (by kernel_rfl) (fun _ _ _ h => h) (Or.inl ⟨by rfl, fun w' => by go_simp⟩) ?_
                  refine wpAny_ready (rs := [12]) (by kernel_rfl) (by simp) ?_
                  refine AllReady.cons rfl (fun K9 hK9 => ?_) ?_
                  · go_simp
                    refine hK9 _ _ ?_
                    clear hK9 K9
                    refine wpAny_done (by kernel_rfl) ?_ _
                    simp only [NoPanic]
                    go_wp2_with fail
                    go_roundw
                    case rel => exact ⟨k - 1, _, ms ++ [1 + x], by go_num, by rw [List.length_append, List.length_singleton]; omega, by rw [List.length_append, List.length_singleton] at hfin; exact hfin⟩
                    case measure => simp [intOf]; omega
                  exact AllReady.nil
                exact AllReady.nil
              exact AllReady.nil
            exact AllReady.nil
          exact AllReady.nil
        exact AllReady.nil
      · have HPK := Lib.hid (pick_c w6.drew S D A n cap (2 + ms.length) c hl hn HB.out hxd hD (by omega) hsd 15 (by decide) (by decide))
        have HAP := Lib.hid fun (x : Int) (w9 : World) (h0 : 0 ≤ x) (h1 : x < 15) (h2 : Src w9 S A n cap (2 + ms.length + 1)) (h3 : w6.drew.grownBy w9 (some S)) => cd_app (M := 3) (by decide) HI.out hD hSP hRP hRS hDR h0 (by rw [show (2 : Int) ^ (3 + 1) - 1 = 15 by decide]; exact h1) (by omega) h2 h3
        have hlen' := hlen
        have hlen := hlen1
        have g0 : w6.cell? ⟨P, 0, none⟩ = some (.int .i64 3) := g0
        clear hxd hsd
        rw [show ((3 : Nat) : Int) = (3 : Int) from rfl]
        go_wp2_with fail
        refine wp_region_noPanic ?_
        refine wp_region_any (by kernel_rfl) ?_
        change wpAny _ _ _ _ _ _ _ (World.drew _)
        refine wpAny_take (i := 0) (v := .pointer (some ⟨P, 1, none⟩)) rfl (by kernel_rfl) (by kernel_rfl) (by kernel_rfl) (fun _ _ _ h => h) (Or.inl ⟨by rfl, fun w' => by go_simp⟩) ?_
        refine wpAny_take (i := 2) (v := .pointer (some ⟨S, 0, none⟩)) rfl (by kernel_rfl) (by kernel_rfl) (by kernel_rfl) (fun _ _ _ h => h) (Or.inl ⟨by rfl, fun w' => by go_simp⟩) ?_
        refine wpAny_take (i := 3) (v := .pointer (some ⟨P, 0, none⟩)) rfl (by kernel_rfl) (by kernel_rfl) (by kernel_rfl) (fun _ _ _ h => h) (Or.inl ⟨by rfl, fun w' => by go_simp⟩) ?_
        refine wpAny_ready (rs := [1, 4]) (by kernel_rfl) (by simp) ?_
        refine AllReady.cons rfl (fun K9 hK9 => ?_) ?_
        · go_simp
          refine hK9 _ _ ?_
          clear hK9 K9
          refine wpAny_ready (rs := [4]) (by kernel_rfl) (by simp) ?_
          refine AllReady.cons rfl (fun K9 hK9 => ?_) ?_
          · go_simp
            refine hK9 _ _ ?_
            clear hK9 K9
            refine wpAny_take (i := 5) (v := .int .i64 16) rfl (by kernel_rfl) (by kernel_rfl) (by kernel_rfl) (fun _ _ _ h => h) (Or.inl ⟨by rfl, fun w' => by go_simp; rfl⟩) ?_
            refine wpAny_take (i := 6) (v := .int .i64 15) rfl (by kernel_rfl) (by kernel_rfl) (by kernel_rfl) (fun _ _ _ h => h) (Or.inl ⟨by rfl, fun w' => by go_simp; rfl⟩) ?_
            refine wpAny_ready (rs := [7]) (by kernel_rfl) (by simp) ?_
            refine AllReady.cons rfl (fun K9 hK9 => ?_) ?_
            · go_simp
              refine HPK.out.mono ?_
              rintro e w9 ⟨x, rfl, hx0, hx1, hs9, hg9⟩
              obtain ⟨c9, c9a, how9, hdb9, hwx, happ⟩ := HAP.out x w9 hx0 hx1 hs9 hg9
              clear hs9 hg9
              go_simp
              refine hK9 _ _ ?_
              clear hK9 K9
              refine wpAny_take (i := 8) (v := .int .i64 (1 + x)) rfl (by kernel_rfl) (by kernel_rfl) (by kernel_rfl) (fun _ _ _ h => h) (Or.inl ⟨by rfl, fun w' => by go_simp⟩) ?_
              refine wpAny_ready (rs := [9]) (by kernel_rfl) (by simp) ?_
              refine AllReady.cons rfl (fun K9 hK9 => ?_) ?_
              · go_simp
                refine hK9 _ _ ?_
                clear hK9 K9
                refine wpAny_ready (rs := [10]) (by kernel_rfl) (by simp) ?_
                refine AllReady.cons rfl (fun K9 hK9 => ?_) ?_
                · refine step_app1 Try.underlying22 infoInt64 rfl (by decide) (by rfl) _ _ (by rfl) (P + 1) (.slice V ms.length kv) _ (by rfl) how9 _ _ (.int .i64 (1 + x)) (by rfl) (cell_new1 _ _ _) rfl hlen hdb9 ?_
                  intro v6 w6 ho6 hg6
                  have ho7 : Ow w6 (P + 1) 2 v6 ((ms ++ [1 + x]).map (Value.int .i64)) := by rw [List.map_append]; exact ho6
                  obtain ⟨V6, k6, rfl, -⟩ := ho7.opn
                  obtain ⟨c6n, f6n, hfin⟩ := happ _ w6 ho6 hg6
                  refine hK9 _ _ ?_
                  clear hK9 K9
                  refine wpAny_take (i := 11) (v := .pointer (some ⟨P, 1, none⟩)) rfl (by kernel_rfl) (by kernel_rfl) (by kernel_rfl) (fun _ _ _ h => h) (Or.inl ⟨by rfl, fun w' => by go_simp⟩) ?_
                  refine wpAny_ready (rs := [12]) (by kernel_rfl) (by simp) ?_
                  refine AllReady.cons rfl (fun K9 hK9 => ?_) ?_
                  · go_simp
                    refine hK9 _ _ ?_
                    clear hK9 K9
                    refine wpAny_done (by kernel_rfl) ?_ _
                    simp only [NoPanic]
                    go_wp2_with fail
                    go_roundw
                    case rel => exact ⟨k - 1, _, ms ++ [1 + x], by go_num, by rw [List.length_append, List.length_singleton]; omega, by rw [List.length_append, List.length_singleton] at hfin; exact hfin⟩
                    case measure => simp [intOf]; omega
                  exact AllReady.nil
                exact AllReady.nil
              exact AllReady.nil
            exact AllReady.nil
          exact AllReady.nil
        refine AllReady.cons rfl (fun K9 hK9 => ?_) ?_
        · go_simp
          refine hK9 _ _ ?_
          clear hK9 K9
          refine wpAny_take (i := 5) (v := .int .i64 16) rfl (by kernel_rfl) (by kernel_rfl) (by kernel_rfl) (fun _ _ _ h => h) (Or.inl ⟨by rfl, fun w' => by go_simp; rfl⟩) ?_
          refine wpAny_take (i := 6) (v := .int .i64 15) rfl (by kernel_rfl) (by kernel_rfl) (by kernel_rfl) (fun _ _ _ h => h) (Or.inl ⟨by rfl, fun w' => by go_simp; rfl⟩) ?_
          refine wpAny_ready (rs := [1, 7]) (by kernel_rfl) (by simp) ?_
          refine AllReady.cons rfl (fun K9 hK9 => ?_) ?_
          · go_simp
            refine hK9 _ _ ?_
            clear hK9 K9
            refine wpAny_ready (rs := [7]) (by kernel_rfl) (by simp) ?_
            refine AllReady.cons rfl (fun K9 hK9 => ?_) ?_
            · go_simp
              refine HPK.out.mono ?_
              rintro e w9 ⟨x, rfl, hx0, hx1, hs9, hg9⟩
              obtain ⟨c9, c9a, how9, hdb9, hwx, happ⟩ := HAP.out x w9 hx0 hx1 hs9 hg9
              clear hs9 hg9
              go_simp
              refine hK9 _ _ ?_
              clear hK9 K9
              refine wpAny_take (i := 8) (v := .int .i64 (1 + x)) rfl (by kernel_rfl) (by kernel_rfl) (by kernel_rfl) (fun _ _ _ h => h) (Or.inl ⟨by rfl, fun w' => by go_simp⟩) ?_
              refine wpAny_ready (rs := [9]) (by kernel_rfl) (by simp) ?_
              refine AllReady.cons rfl (fun K9 hK9 => ?_) ?_
              · go_simp
                refine hK9 _ _ ?_
                clear hK9 K9
                refine wpAny_ready (rs := [10]) (by kernel_rfl) (by simp) ?_
                refine AllReady.cons rfl (fun K9 hK9 => ?_) ?_
                · refine step_app1 Try.underlying22 infoInt64 rfl (by decide) (by rfl) _ _ (by rfl) (P + 1) (.slice V ms.length kv) _ (by rfl) how9 _ _ (.int .i64 (1 + x)) (by rfl) (cell_new1 _ _ _) rfl hlen hdb9 ?_
                  intro v6 w6 ho6 hg6
                  have ho7 : Ow w6 (P + 1) 2 v6 ((ms ++ [1 + x]).map (Value.int .i64)) := by rw [List.map_append]; exact ho6
                  obtain ⟨V6, k6, rfl, -⟩ := ho7.opn
                  obtain ⟨c6n, f6n, hfin⟩ := happ _ w6 ho6 hg6
                  refine hK9 _ _ ?_
                  clear hK9 K9
                  refine wpAny_take (i := 11) (v := .pointer (some ⟨P, 1, none⟩)) rfl (by kernel_rfl) (by kernel_rfl) (by kernel_rfl) (fun _ _ _ h => h) (Or.inl ⟨by rfl, fun w' => by go_simp⟩) ?_
                  refine wpAny_ready (rs := [12]) (by kernel_rfl) (by simp) ?_
                  refine AllReady.cons rfl (fun K9 hK9 => ?_) ?_
                  · go_simp
                    refine hK9 _ _ ?_
                    clear hK9 K9
                    refine wpAny_done (by kernel_rfl) ?_ _
                    simp only [NoPanic]
                    go_wp2_with fail
                    go_roundw
                    case rel => exact ⟨k - 1, _, ms ++ [1 + x], by go_num, by rw [List.length_append, List.length_singleton]; omega, by rw [List.length_append, List.length_singleton] at hfin; exact hfin⟩
                    case measure => simp [intOf]; omega
                  exact AllReady.nil
                exact AllReady.nil
              exact AllReady.nil
            exact AllReady.nil
          refine AllReady.cons rfl (fun K9 hK9 => ?_) ?_
          · go_simp
            refine HPK.out.mono ?_
            rintro e w9 ⟨x, rfl, hx0, hx1, hs9, hg9⟩
            obtain ⟨c9, c9a, how9, hdb9, hwx, happ⟩ := HAP.out x w9 hx0 hx1 hs9 hg9
            clear hs9 hg9
            go_simp
            refine hK9 _ _ ?_
            clear hK9 K9
            refine wpAny_take (i := 8) (v := .int .i64 (1 + x)) rfl (by kernel_rfl) (by kernel_rfl) (by kernel_rfl) (fun _ _ _ h => h) (Or.inl ⟨by rfl, fun w' => by go_simp⟩) ?_
            refine wpAny_ready (rs := [1, 9]) (by kernel_rfl) (by simp) ?_
            refine AllReady.cons rfl (fun K9 hK9 => ?_) ?_
            · go_simp
              refine hK9 _ _ ?_
              clear hK9 K9
              refine wpAny_ready (rs := [9]) (by kernel_rfl) (by simp) ?_
              refine AllReady.cons rfl (fun K9 hK9 => ?_) ?_
              · go_simp
                refine hK9 _ _ ?_
                clear hK9 K9
                refine wpAny_ready (rs := [10]) (by kernel_rfl) (by simp) ?_
                refine AllReady.cons rfl (fun K9 hK9 => ?_) ?_
                · refine step_app1 Try.underlying22 infoInt64 rfl (by decide) (by rfl) _ _ (by rfl) (P + 1) (.slice V ms.length kv) _ (by rfl) how9 _ _ (.int .i64 (1 + x)) (by rfl) (cell_new1 _ _ _) rfl hlen hdb9 ?_
                  intro v6 w6 ho6 hg6
                  have ho7 : Ow w6 (P + 1) 2 v6 ((ms ++ [1 + x]).map (Value.int .i64)) := by rw [List.map_append]; exact ho6
                  obtain ⟨V6, k6, rfl, -⟩ := ho7.opn
                  obtain ⟨c6n, f6n, hfin⟩ := happ _ w6 ho6 hg6
                  refine hK9 _ _ ?_
                  clear hK9 K9
                  refine wpAny_take (i := 11) (v := .pointer (some ⟨P, 1, none⟩)) rfl (by kernel_rfl) (by kernel_rfl) (by kernel_rfl) (fun _ _ _ h => h) (Or.inl ⟨by rfl, fun w' => by go_simp⟩) ?_
                  refine wpAny_ready (rs := [12]) (by kernel_rfl) (by simp) ?_
                  refine AllReady.cons rfl (fun K9 hK9 => ?_) ?_
                  · go_simp
                    refine hK9 _ _ ?_
                    clear hK9 K9
                    refine wpAny_done (by kernel_rfl) ?_ _
                    simp only [NoPanic]
                    go_wp2_with fail
                    go_roundw
                    case rel => exact ⟨k - 1, _, ms ++ [1 + x], by go_num, by rw [List.length_append, List.length_singleton]; omega, by rw [List.length_append, List.length_singleton] at hfin; exact hfin⟩
                    case measure => simp [intOf]; omega
                  exact AllReady.nil
                exact AllReady.nil
              exact AllReady.nil
            refine AllReady.cons rfl (fun K9 hK9 => ?_) ?_
            · go_simp
              refine hK9 _ _ ?_
              clear hK9 K9
              refine wpAny_ready (rs := [1]) (by kernel_rfl) (by simp) ?_
              refine AllReady.cons rfl (fun K9 hK9 => ?_) ?_
              · go_simp
                refine hK9 _ _ ?_
                clear hK9 K9
                refine wpAny_ready (rs := [10]) (by kernel_rfl) (by simp) ?_
                refine AllReady.cons rfl (fun K9 hK9 => ?_) ?_
                · refine step_app1 Try.underlying22 infoInt64 rfl (by decide) (by rfl) _ _ (by rfl) (P + 1) (.slice V ms.length kv) _ (by rfl) how9 _ _ (.int .i64 (1 + x)) (by rfl) (cell_new1 _ _ _) rfl hlen hdb9 ?_
                  intro v6 w6 ho6 hg6
                  have ho7 : Ow w6 (P + 1) 2 v6 ((ms ++ [1 + x]).map (Value.int .i64)) := by rw [List.map_append]; exact ho6
                  obtain ⟨V6, k6, rfl, -⟩ := ho7.opn
                  obtain ⟨c6n, f6n, hfin⟩ := happ _ w6 ho6 hg6
                  refine hK9 _ _ ?_
                  clear hK9 K9
                  refine wpAny_take (i := 11) (v := .pointer (some ⟨P, 1, none⟩)) rfl (by kernel_rfl) (by kernel_rfl) (by kernel_rfl) (fun _ _ _ h => h) (Or.inl ⟨by rfl, fun w' => by go_simp⟩) ?_
                  refine wpAny_ready (rs := [12]) (by kernel_rfl) (by simp) ?_
                  refine AllReady.cons rfl (fun K9 hK9 => ?_) ?_
                  · go_simp
                    refine hK9 _ _ ?_
                    clear hK9 K9
                    refine wpAny_done (by kernel_rfl) ?_ _
                    simp only [NoPanic]
                    go_wp2_with fail
                    go_roundw
                    case rel => exact ⟨k - 1, _, ms ++ [1 + x], by go_num, by rw [List.length_append, List.length_singleton]; omega, by rw [List.length_append, List.length_singleton] at hfin; exact hfin⟩
                    case measure => simp [intOf]; omega
                  exact AllReady.nil
                exact AllReady.nil
              exact AllReady.nil
            exact AllReady.nil
          exact AllReady.nil
        exact AllReady.nil


set_option maxRecDepth 100000 in
set_option maxHeartbeats 1000000 in
theorem B10Coder_c (w : World) (A : Option Addr) (n cap : Nat) (c : List Int) (hl : c.length = n) (hn : n ≤ 1048576) (hb : ∀ x ∈ c, 0 ≤ x ∧ x ≤ 255) (hx : Sl w w.heap.size A (c.map (Value.int .u8))) :
    Calls Try.prog 16 #[.slice A n cap] w fun e w' => ∃ (M : Nat) (v : Value) (ms : List Int), e = .returned (.agg #[.int .i64 (M : Int), v]) ∧ 1 ≤ M ∧ M ≤ 3 ∧ 1 ≤ ms.length ∧ ms.length ≤ 3 ∧ (∀ x ∈ ms, 1 ≤ x ∧ x < 2 ^ (M + 1)) ∧ Ow w' w.heap.size 2 v (ms.map (Value.int .i64)) ∧ Below w.heap.size w w' := by
  have HX := Lib.hid hx
  have HB := Lib.hid hb
  clear hx hb
  obtain ⟨w1, ew1⟩ : ∃ q : World, q = w.alloc (.cells #[.int .i64 0, .slice none 0 0] 29) := ⟨_, rfl⟩
  have hR1 : Obj w1 w.heap.size 29 #[.int .i64 0, .slice none 0 0] := by rw [ew1]; exact Obj.new _ _ _
  have hb1 : Below w.heap.size w w1 := by rw [ew1]; exact (Below.refl _ _).alloc (Nat.le_refl _) _
  have hz1 : w1.heap.size = w.heap.size + 1 := by rw [ew1]; simp
  have hz1' : w.heap.size < w1.heap.size := by omega
  clear hz1
  go_enter Try.func16, Try.ntmps16
  go_wp2_with (rw [← ew1]; clear ew1)
  refine (l00From_c w1 A n cap).mono ?_
  rintro e w2 ⟨rfl, hs2, hb2, hz2⟩
  have hx2 := HX.out.below (hb1.trans (hb2.mono (by omega)))
  have hR2 := hR1.below hb2 hR1.lt
  have hb12 := hb1.trans (hb2.mono (show w.heap.size ≤ w1.heap.size by omega))
  go_wp2_with fail
  refine (l07DrawCoderOk_c w2 w1.heap.size w1.heap.size A n cap c hl hn HB.out (hx2.more (by omega)) (Nat.le_refl _) hs2).mono ?_
  rintro e w3 ⟨M, v, ms, rfl, hM1, hM3, hk1, hk3, hms, ho3, hb3⟩
  have hR3 := hR2.below hb3 (by omega)
  obtain ⟨V, kv, rfl, hpv⟩ := ho3.opn
  obtain ⟨⟨q0, q1⟩, q2, q3⟩ := hR3.two
  have HO3 := Lib.hid ho3
  have HMS := Lib.hid hms
  have HB3 := Lib.hid (hb12.trans (hb3.mono (by omega)))
  clear hpv ho3 hms hs2 hb1 hb2 hb3 hb12 hx2 hR1 hR2 hR3
  go_wp2_with fail
  refine bodyPost_ret (v := .agg #[.int .i64 (M : Int), .slice V ms.length kv]) (by unfold results; rw [Try.results16]; go_simp) rfl ?_
  have hf1 := ownsRow_setCell_below HO3.out (a := ⟨w.heap.size, 0, none⟩) (by simp only []; exact hz1') (.int .i64 (M : Int))
  have hf2 := ownsRow_setCell_below hf1 (a := ⟨w.heap.size, 1, none⟩) (by simp only []; exact hz1') (.slice V ms.length kv)
  exact ⟨M, _, ms, rfl, hM1, hM3, hk1, hk3, HMS.out, own_base hf2 (Nat.le_of_lt hz1'), below_put (below_put HB3.out (Nat.le_refl _) 0 _) (Nat.le_refl _) 1 _⟩

end Go.Proofs.Ytopeidmafalklaa


namespace Go.Proofs.Ytopeidmafalklaa
open Go.RowKit Go.Shelf
attribute [local go_sem] Oper.semAt_some

def sgB (b : Bool) : Nat := if b then 1065353216 else 3212836864
theorem softSign_sg (b : Bool) : softSign 1065353216 b = sgB b := by cases b <;> decide
def sgV (v : Value) : Nat := match v with | .bool b => sgB b | _ => 0
@[local go_sem] theorem sgV_bool (b : Bool) : sgV (.bool b) = sgB b := rfl
def cV (p : Nat × Nat) : Value := .complex .f32 p.1 p.2
def ptAt (bs : List Bool) (x : Nat) : Nat × Nat := (sgB (bs.getD (2 * x) false), sgB (bs.getD (2 * x + 1) false))
def ptK (bs : List Bool) (k : Nat) : List (Nat × Nat) := (List.range k).map (ptAt bs)
def ptsOk (bs : List Bool) : Bool := decide (bs.length ≤ 160) && (bs.length % 2 == 0)
def ptsL (bs : List Bool) : List (Nat × Nat) := if ptsOk bs then ptK bs (bs.length / 2) else []
theorem ptK_snoc (bs : List Bool) (k : Nat) : (ptK bs (k + 1)).map cV = (ptK bs k).map cV ++ [cV (ptAt bs k)] := by
  unfold ptK
  rw [List.range_succ, List.map_append, List.map_append]
  rfl
theorem ptK_len (bs : List Bool) (k : Nat) : (ptK bs k).length = k := by simp [ptK]
theorem infoC64 : (Try.prog.info? 118).map (fun i => (i.zero, i.size, i.bytes)) = some (some (.complex .f32 0 0), 1, 8) := by kernel_rfl
/-- what is handed back -/
def PtsPost (w : World) (bs : List Bool) (e : Ending) (w' : World) : Prop :=
  ∃ v, e = .returned (.tuple #[v, .bool (ptsOk bs)]) ∧ Ow w' w.heap.size 118 v ((ptsL bs).map cV) ∧ Below w.heap.size w w'
theorem pts_fail {w w' : World} {bs : List Bool} (h : ptsOk bs = false) (hb : Below w.heap.size w w') : PtsPost w bs (.returned (.tuple #[.slice none 0 0, .bool false])) w' := by
  refine ⟨.slice none 0 0, by rw [h], ?_, hb⟩
  have : ptsL bs = [] := by unfold ptsL; rw [h]; rfl
  rw [this]
  exact ⟨rfl, .inl ⟨rfl, rfl⟩⟩



end Go.Proofs.Ytopeidmafalklaa
