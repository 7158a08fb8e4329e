/-
  Plain: the other code, syndromes and leaders.
  Conditions: valid codes of at most 16 digits.
-/
import Derived.Test.YtldnhflgpbcmeaaEB

namespace Go.Proofs.Ytldnhflgpbcmeaa
open Go.RowKit

theorem cnt_shift (f : Nat → Bool) (n : Nat) : cnt f (n + 1) = (if f 0 then 1 else 0) + cnt (fun i => f (i + 1)) n := by
  induction n with
  | zero => simp [cnt]
  | succ n ih => rw [cnt, ih, cnt]; omega
theorem pcF_cnt : ∀ (f x : Nat), pcF f x = cnt x.testBit f
  | 0, _ => rfl
  | f + 1, x => by
    rw [pcF, pcF_cnt f, cnt_shift]
    have e : cnt (fun i => x.testBit (i + 1)) f = cnt (x / 2).testBit f := cnt_congr fun i _ => Nat.testBit_succ x i
    rw [e, Nat.testBit_zero]
    rcases Nat.mod_two_eq_zero_or_one x with h | h <;> simp [h]
theorem wt_wtN (x : Nat) : wt (x : Int) = ((wtN x 16 : Nat) : Int) := by
  unfold wt wtN
  rw [Int.toNat_natCast, pcF_cnt]
theorem bits_hi {x M i : Nat} (hx : x < 2 ^ M) (hi : M ≤ i) : x.testBit i = false := Nat.testBit_lt_two_pow (Nat.lt_of_lt_of_le hx (Nat.pow_le_pow_right (by decide) hi))
theorem wtN_16 {x M : Nat} (hM : M ≤ 16) (hx : x < 2 ^ M) : wtN x 16 = wtN x M := by
  unfold wtN
  rw [show 16 = M + (16 - M) by omega, cnt_more _ fun i hi => bits_hi hx hi]
theorem odd_dot {a b : Nat} (ha : a < 65536) (hb : b < 65536) : (wt (bits .and .i64 (a : Int) (b : Int)) % 2 == 1) = dot a b 16 := by
  rw [and_nat a b ha hb, wt_wtN]
  unfold dot wtN
  rw [par_congr (g := (a &&& b).testBit) (fun i _ => (Nat.testBit_and _ _ _).symm), cnt_par]
  have h3 : cnt (a &&& b).testBit 16 % 2 < 2 := Nat.mod_lt _ (by decide)
  by_cases h : cnt (a &&& b).testBit 16 % 2 = 1
  · rw [show (((cnt (a &&& b).testBit 16 : Nat) : Int) % 2) = 1 by omega, h]; rfl
  · rw [show (((cnt (a &&& b).testBit 16 : Nat) : Int) % 2) = 0 by omega]
    simp [h]
theorem dot_16 {x M : Nat} (hM : M ≤ 16) (hx : x < 2 ^ M) (y : Nat) : dot x y 16 = dot x y M := by
  unfold dot
  rw [show 16 = M + (16 - M) by omega, par_more _ fun i hi => by rw [bits_hi hx hi]; rfl]

/-! the other code -/
def TT (E : List Int) (q : Nat) : Nat := (rowF E q).log2
def freeL (M : Nat) (E : List Int) : List Nat := (List.range M).filter fun i => !(topsN (TT E) E.length).testBit i
def dualN (M : Nat) (E : List Int) : List Nat := (freeL M E).map (wordN (rowF E) (TT E) E.length)
def dualL (M : Nat) (xs : List Int) : List Int := (dualN M (echL M xs)).map fun n : Nat => (n : Int)
theorem ech_log {E : List Int} {n m : Nat} {T : Nat → Nat} (h : Ech (rowF E) n n m T) {q : Nat} (hq : q < n) : TT E q = T q := by
  have h1 := h.one q hq
  have h0 : rowF E q ≠ 0 := fun e => by rw [e, Nat.zero_testBit] at h1; cases h1
  have h2 : 2 ^ T q ≤ rowF E q := by
    rcases Nat.lt_or_ge (rowF E q) (2 ^ T q) with h3 | h3
    · rw [Nat.testBit_lt_two_pow h3] at h1; cases h1
    · exact h3
  unfold TT
  rcases Nat.lt_trichotomy (rowF E q).log2 (T q) with h3 | h3 | h3
  · have := (Nat.log2_lt h0).1 h3
    omega
  · exact h3
  · have h4 : (rowF E q).testBit (rowF E q).log2 = true := Nat.testBit_log2 h0
    rw [h.high q hq _ h3] at h4
    cases h4
structure Du (M : Nat) (xs : List Int) : Prop where
  m : M ≤ 16
  m1 : 1 ≤ M
  n1 : 1 ≤ xs.length
  n8 : xs.length ≤ 8
  rm : RM M xs
  em : RM M (echL M xs)
  el : (echL M xs).length = xs.length
  ec : Ech (rowF (echL M xs)) (echL M xs).length (echL M xs).length 0 (TT (echL M xs))
  s1 : Sub (rowF (echL M xs)) (rowF xs) xs.length
  s2 : Sub (rowF xs) (rowF (echL M xs)) xs.length
  ind : Ind (rowF xs) xs.length
theorem Ech.tops {r : Nat → Nat} {n k m : Nat} {T S : Nat → Nat} (h : Ech r n k m T) (e : ∀ q, q < k → S q = T q) : Ech r n k m S :=
  ⟨h.kn, fun q hq => by rw [e q hq]; exact h.top q hq, fun q hq => by rw [e q hq]; exact h.one q hq, fun q hq => by rw [e q hq]; exact h.only q hq, fun q hq => by rw [e q hq]; exact h.high q hq, h.low⟩
theorem du_of {M : Nat} {xs : List Int} (h : validParB (M : Int) xs = true) : Du M xs := by
  obtain ⟨h1, ⟨T, h2⟩, h3, h4, h5⟩ := valid_ech h
  have hp := (valid_parts h).1
  obtain ⟨m1, m2, n1, n8, _⟩ := par_facts hp
  have hl := echL_len M xs
  exact ⟨by omega, by omega, n1, n8, par_RM hp, h1, hl, by rw [hl]; exact h2.tops fun q hq => ech_log h2 hq, h3, h4, h5⟩
theorem Du.free_mem {M : Nat} {xs : List Int} (_ : Du M xs) {i : Nat} (hi : i ∈ freeL M (echL M xs)) : i < M ∧ (topsN (TT (echL M xs)) (echL M xs).length).testBit i = false := by
  unfold freeL at hi
  rw [List.mem_filter, List.mem_range] at hi
  exact ⟨hi.1, by simpa using hi.2⟩
theorem Du.get {M : Nat} {xs : List Int} (_ : Du M xs) {j : Nat} (hj : j < (dualL M xs).length) : ∃ i, (freeL M (echL M xs))[j]? = some i ∧ rowF (dualL M xs) j = wordN (rowF (echL M xs)) (TT (echL M xs)) (echL M xs).length i := by
  have hj2 : j < (freeL M (echL M xs)).length := by unfold dualL dualN at hj; simpa using hj
  refine ⟨_, List.getElem?_eq_getElem hj2, ?_⟩
  unfold rowF dualL dualN
  simp [List.getD, hj2]
  rfl
theorem Du.free_len {M : Nat} {xs : List Int} (h : Du M xs) : (freeL M (echL M xs)).length + xs.length = M := by
  have := tops_count h.ec fun i _ => rowF_lt h.em i
  rw [h.el] at this
  unfold freeL
  rw [h.el]
  exact this
theorem Du.len {M : Nat} {xs : List Int} (h : Du M xs) : (dualL M xs).length + xs.length = M := by
  unfold dualL dualN
  rw [List.length_map, List.length_map]
  exact h.free_len
theorem Du.rmD {M : Nat} {xs : List Int} (h : Du M xs) : RM M (dualL M xs) := fun j => by
  by_cases hj : j < (dualL M xs).length
  · obtain ⟨i, h1, h2⟩ := h.get hj
    have h3 := h.free_mem (List.mem_of_getElem? h1)
    have h4 : wordN (rowF (echL M xs)) (TT (echL M xs)) (echL M xs).length i < 2 ^ M := ors_lt (Nat.pow_lt_pow_right (by decide) h3.1) _ fun q hq => h.ec.lt (fun i _ => rowF_lt h.em i) hq
    have h5 : 0 ≤ (dualL M xs).getD j 0 := by
      unfold dualL
      simp [List.getD]
      cases (dualN M (echL M xs))[j]? <;> simp
    rw [← h2] at h4
    have h6 : ((rowF (dualL M xs) j : Nat) : Int) < ((2 ^ M : Nat) : Int) := by exact_mod_cast h4
    push_cast at h6
    unfold rowF at h6
    omega
  · have : (dualL M xs).getD j 0 = 0 := by simp [List.getD, hj]
    rw [this]
    exact ⟨Int.le_refl _, Int.pow_pos (by decide)⟩
theorem Du.ind_dual {M : Nat} {xs : List Int} (h : Du M xs) : Ind (rowF (dualL M xs)) (dualL M xs).length := fun c hc j hj => by
  obtain ⟨i, h1, h2⟩ := h.get hj
  have h3 := h.free_mem (List.mem_of_getElem? h1)
  have hb : (lin (rowF (dualL M xs)) c (dualL M xs).length).testBit i = c j := by
    rw [lin_bit, ← par_one hj (c j)]
    apply par_congr
    intro q hq
    obtain ⟨i2, g1, g2⟩ := h.get hq
    rw [g2, word_one _ _ _ _ h3.2]
    have hnd : (freeL M (echL M xs)).Nodup := List.Nodup.sublist (List.filter_sublist) List.nodup_range
    by_cases e : q = j
    · subst e
      rw [h1] at g1
      cases g1
      simp
    · have : ¬ i2 = i := fun e2 => by
        subst e2
        obtain ⟨a1, a2⟩ := List.getElem?_eq_some_iff.1 h1
        obtain ⟨b1, b2⟩ := List.getElem?_eq_some_iff.1 g1
        exact e ((List.getElem_inj (h₀ := b1) (h₁ := a1) hnd).1 (b2.trans a2.symm))
      simp [e, this]
  rw [hc, Nat.zero_testBit] at hb
  exact hb.symm
theorem Du.valid {M : Nat} {xs : List Int} (h : Du M xs) : validParB (M : Int) (dualL M xs) = (decide (xs.length < M) && decide (M - xs.length ≤ 8)) := by
  have hl := h.len
  by_cases h1 : xs.length < M
  · by_cases h2 : M - xs.length ≤ 8
    · rw [decide_eq_true h1, decide_eq_true h2]
      refine valid_of_ind ?_ h.ind_dual
      unfold parRows
      simp only [Bool.and_eq_true, decide_eq_true_eq, List.all_eq_true, inB_true]
      have := h.m
      have := h.m1
      refine ⟨⟨⟨by omega, by omega⟩, by omega⟩, fun x hx => ?_⟩
      have := h.rmD.mem hx
      rw [Int.toNat_natCast]
      omega
    · rw [decide_eq_true h1, decide_eq_false h2]
      exact par_no (par_8 (by omega))
  · rw [decide_eq_false h1]
    exact par_no (par_1 (by omega))
/-! syndromes -/
def oddAt (D : List Int) (x : Int) (i : Nat) : Bool := wt (bits .and .i64 (D.getD i 0) x) % 2 == 1
def synK (D : List Int) (x : Int) (k : Nat) : Nat := ors (oddAt D x) (fun i => i) 0 k
def synL (D : List Int) (x : Int) : Nat := synK D x D.length
theorem syn_lt (D : List Int) (x : Int) (k : Nat) : synK D x k < 2 ^ k := ors_lt (Nat.pow_pos (by decide)) _ fun _ hq => hq
theorem syn_bit (D : List Int) (x : Int) (b : Nat) : (synL D x).testBit b = (decide (b < D.length) && oddAt D x b) := by
  unfold synL synK
  cases hh : (ors (oddAt D x) (fun i => i) 0 D.length).testBit b
  · cases h2 : (decide (b < D.length) && oddAt D x b)
    · rfl
    · rw [Bool.and_eq_true, decide_eq_true_eq] at h2
      have := (ors_bit (oddAt D x) (fun i => i) 0 b D.length).2 (.inr ⟨b, h2.1, h2.2, rfl⟩)
      rw [hh] at this
      cases this
  · rcases (ors_bit _ _ _ _ _).1 hh with h1 | ⟨q, h1, h2, rfl⟩
    · rw [Nat.zero_testBit] at h1; cases h1
    · rw [decide_eq_true h1, h2]; rfl
theorem odd_at {M : Nat} (hM : M ≤ 16) {D : List Int} (hD : RM M D) {x : Nat} (hx : x < 65536) (i : Nat) : oddAt D (x : Int) i = dot (rowF D i) x 16 := by
  have h1 := rowF_lt hD i
  have h2 := pow16N hM
  unfold oddAt
  rw [← rowF_cast hD i, odd_dot (by omega) hx]
theorem syn_xor {M : Nat} (hM : M ≤ 16) {D : List Int} (hD : RM M D) {x y : Nat} (hx : x < 65536) (hy : y < 65536) : synL D ((x ^^^ y : Nat) : Int) = synL D (x : Int) ^^^ synL D (y : Int) := by
  have hxy : x ^^^ y < 2 ^ 16 := Nat.xor_lt_two_pow (by omega) (by omega)
  apply eq_of_bits
  intro b
  rw [Nat.testBit_xor, syn_bit, syn_bit, syn_bit, odd_at hM hD (by omega), odd_at hM hD hx, odd_at hM hD hy, dot_xor]
  cases decide (b < D.length) <;> cases dot (rowF D b) x 16 <;> cases dot (rowF D b) y 16 <;> rfl
theorem Du.syn_zero {M : Nat} {xs : List Int} (h : Du M xs) {x : Nat} (hx : x < 2 ^ M) : synL (dualL M xs) (x : Int) = 0 ↔ Sp (rowF xs) xs.length x := by
  have h2 := pow16N h.m
  have hz := dual_zero h.ec (fun i _ => rowF_lt h.em i) hx
  rw [h.el] at hz
  have hs : Sp (rowF (echL M xs)) xs.length x ↔ Sp (rowF xs) xs.length x := ⟨h.s1.sp, h.s2.sp⟩
  rw [← hs, ← hz]
  constructor
  · intro h0 i hi ht
    have hmem : i ∈ freeL M (echL M xs) := by
      unfold freeL
      rw [List.mem_filter, List.mem_range, h.el]
      exact ⟨hi, by rw [ht]; rfl⟩
    obtain ⟨j, hj⟩ := List.mem_iff_getElem?.1 hmem
    have hj2 : j < (dualL M xs).length := by
      have := (List.getElem?_eq_some_iff.1 hj).1
      unfold dualL dualN
      simpa using this
    obtain ⟨i2, g1, g2⟩ := h.get hj2
    rw [hj] at g1
    cases g1
    have := congrArg (fun n => n.testBit j) h0
    simp only [Nat.zero_testBit] at this
    rw [syn_bit, decide_eq_true hj2, Bool.true_and, odd_at h.m h.rmD (by omega), g2, dot_comm, dot_16 h.m hx, h.el] at this
    exact this
  · intro h0
    apply eq_of_bits
    intro b
    rw [Nat.zero_testBit, syn_bit]
    by_cases hb : b < (dualL M xs).length
    · obtain ⟨i, g1, g2⟩ := h.get hb
      have h3 := h.free_mem (List.mem_of_getElem? g1)
      rw [odd_at h.m h.rmD (by omega), g2, dot_comm, dot_16 h.m hx, h.el]
      have h4 := h3.2
      rw [h.el] at h4
      rw [h0 i h3.1 h4]
      simp
    · simp [hb]
/-! leaders -/
def leadK (D : List Int) : Nat → List Int
  | 0 => List.replicate (2 ^ D.length) (-1)
  | k + 1 => if (leadK D k).getD (synL D (k : Int)) 0 < 0 ∨ wt (k : Int) < wt ((leadK D k).getD (synL D (k : Int)) 0) then (leadK D k).set (synL D (k : Int)) (k : Int) else leadK D k
theorem leadK_len (D : List Int) (k : Nat) : (leadK D k).length = 2 ^ D.length := by
  induction k with
  | zero => simp [leadK]
  | succ k ih => rw [leadK]; split <;> simp [ih]
theorem lead_is (D : List Int) : ∀ (k s : Nat), s < 2 ^ D.length → ((leadK D k).getD s 0 = -1 ∧ ∀ w, w < k → synL D (w : Int) ≠ s) ∨ ∃ l : Nat, (leadK D k).getD s 0 = (l : Int) ∧ l < k ∧ synL D (l : Int) = s ∧ ∀ w : Nat, w < k → synL D (w : Int) = s → wt (l : Int) ≤ wt (w : Int)
  | 0, s, hs => .inl ⟨by simp [leadK, List.getD, hs], fun w hw => absurd hw (Nat.not_lt_zero _)⟩
  | k + 1, s, hs => by
    have ih := lead_is D k s hs
    have hsl : synL D (k : Int) < 2 ^ D.length := syn_lt _ _ _
    rw [leadK]
    by_cases hc : (leadK D k).getD (synL D (k : Int)) 0 < 0 ∨ wt (k : Int) < wt ((leadK D k).getD (synL D (k : Int)) 0)
    · rw [if_pos hc, getD_set _ (by rw [leadK_len]; exact hsl)]
      by_cases e : s = synL D (k : Int)
      · rw [if_pos e]
        refine .inr ⟨k, rfl, by omega, e.symm, fun w hw hws => ?_⟩
        by_cases hwk : w = k
        · subst hwk; exact Int.le_refl _
        · rcases ih with ⟨_, h2⟩ | ⟨l, h1, h2, h3, h4⟩
          · exact absurd hws (h2 w (by omega))
          · have h5 := h4 w (by omega) hws
            rw [← e, h1] at hc
            omega
      · rw [if_neg e]
        rcases ih with ⟨h1, h2⟩ | ⟨l, h1, h2, h3, h4⟩
        · refine .inl ⟨h1, fun w hw => ?_⟩
          by_cases hwk : w = k
          · subst hwk; exact fun e2 => e e2.symm
          · exact h2 w (by omega)
        · refine .inr ⟨l, h1, by omega, h3, fun w hw hws => ?_⟩
          by_cases hwk : w = k
          · subst hwk; exact absurd hws.symm e
          · exact h4 w (by omega) hws
    · rw [if_neg hc]
      rcases ih with ⟨h1, h2⟩ | ⟨l, h1, h2, h3, h4⟩
      · refine .inl ⟨h1, fun w hw => ?_⟩
        by_cases hwk : w = k
        · subst hwk
          intro e
          rw [e, h1] at hc
          exact hc (.inl (by decide))
        · exact h2 w (by omega)
      · refine .inr ⟨l, h1, by omega, h3, fun w hw hws => ?_⟩
        by_cases hwk : w = k
        · subst hwk
          rw [hws, h1] at hc
          omega
        · exact h4 w (by omega) hws
/-- the leader of a word: a word with the same syndrome, of least weight -/
def leadV (M : Nat) (D : List Int) (x : Int) : Int := (leadK D (2 ^ M)).getD (synL D x) 0
theorem lead_of {M : Nat} {D : List Int} {x : Nat} (hx : x < 2 ^ M) : ∃ l : Nat, leadV M D (x : Int) = (l : Int) ∧ l < 2 ^ M ∧ synL D (l : Int) = synL D (x : Int) ∧ ∀ w : Nat, w < 2 ^ M → synL D (w : Int) = synL D (x : Int) → wt (l : Int) ≤ wt (w : Int) := by
  rcases lead_is D (2 ^ M) (synL D (x : Int)) (syn_lt _ _ _) with ⟨_, h2⟩ | h
  · exact absurd rfl (h2 x hx)
  · exact h

end Go.Proofs.Ytldnhflgpbcmeaa
