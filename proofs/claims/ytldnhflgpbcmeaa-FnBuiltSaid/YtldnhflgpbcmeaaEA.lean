/-
  Plain: sums of rows, rows in steps, and words that have even numbers in common with all rows.
  Conditions: as each theorem says.
-/
import Derived.Test.YtldnhflgpbcmeaaPA
namespace Go.Proofs.Ytldnhflgpbcmeaa
open Go.RowKit

/-! parity of some bits -/
def par (f : Nat → Bool) : Nat → Bool | 0 => false | k + 1 => Bool.xor (par f k) (f k)
theorem par_congr {f g : Nat → Bool} {n : Nat} (h : ∀ i, i < n → f i = g i) : par f n = par g n := by
  induction n with
  | zero => rfl
  | succ n ih => rw [par, par, ih (fun i hi => h i (by omega)), h n (by omega)]
theorem par_xor (f g : Nat → Bool) (n : Nat) : par (fun i => Bool.xor (f i) (g i)) n = Bool.xor (par f n) (par g n) := by
  induction n with
  | zero => rfl
  | succ n ih =>
    rw [par, par, par, ih]
    cases par f n <;> cases par g n <;> cases f n <;> cases g n <;> rfl
theorem par_false {f : Nat → Bool} {n : Nat} (h : ∀ i, i < n → f i = false) : par f n = false := by
  induction n with
  | zero => rfl
  | succ n ih => rw [par, ih (fun i hi => h i (by omega)), h n (by omega)]; rfl
theorem par_one {n j : Nat} (hj : j < n) (v : Bool) : par (fun i => decide (i = j) && v) n = v := by
  induction n with
  | zero => omega
  | succ n ih =>
    rw [par]
    by_cases h : j = n
    · subst h
      rw [par_false (fun i hi => by simp; omega)]
      simp
    · rw [ih (by omega)]
      have : decide (n = j) = false := by simp; omega
      rw [this]
      simp
theorem par_comm (f : Nat → Nat → Bool) (n m : Nat) : par (fun i => par (fun j => f i j) m) n = par (fun j => par (fun i => f i j) n) m := by
  induction n with
  | zero => exact (par_false (fun i _ => rfl)).symm
  | succ n ih =>
    rw [par, ih]
    rw [← par_xor]
    rfl
theorem par_and (b : Bool) (f : Nat → Bool) (n : Nat) : par (fun i => b && f i) n = (b && par f n) := by
  cases b
  · exact par_false (fun i _ => rfl)
  · rfl
theorem par_more {f : Nat → Bool} {n : Nat} (q : Nat) (h : ∀ i, n ≤ i → f i = false) : par f (n + q) = par f n := by
  induction q with
  | zero => rfl
  | succ q ih => rw [show n + (q + 1) = (n + q) + 1 by omega, par, ih, h _ (by omega)]; simp

/-! sums of rows -/
def lin (r : Nat → Nat) (c : Nat → Bool) : Nat → Nat | 0 => 0 | k + 1 => if c k then lin r c k ^^^ r k else lin r c k
theorem lin_bit (r : Nat → Nat) (c : Nat → Bool) (n b : Nat) : (lin r c n).testBit b = par (fun i => c i && (r i).testBit b) n := by
  induction n with
  | zero => simp [lin, par]
  | succ n ih =>
    rw [lin, par]
    cases hc : c n
    · simp [ih]
    · simp [Nat.testBit_xor, ih]
theorem lin_congr {r s : Nat → Nat} {c d : Nat → Bool} {n : Nat} (h : ∀ i, i < n → r i = s i) (g : ∀ i, i < n → c i = d i) : lin r c n = lin s d n := by
  induction n with
  | zero => rfl
  | succ n ih => rw [lin, lin, ih (fun i hi => h i (by omega)) (fun i hi => g i (by omega)), h n (by omega), g n (by omega)]
theorem eq_of_bits {a b : Nat} (h : ∀ i, a.testBit i = b.testBit i) : a = b := Nat.eq_of_testBit_eq h
theorem lin_xor (r : Nat → Nat) (c d : Nat → Bool) (n : Nat) : lin r (fun i => Bool.xor (c i) (d i)) n = lin r c n ^^^ lin r d n := by
  apply eq_of_bits
  intro b
  rw [Nat.testBit_xor, lin_bit, lin_bit, lin_bit, ← par_xor]
  apply par_congr
  intro i _
  cases c i <;> cases d i <;> cases (r i).testBit b <;> rfl
theorem lin_one {n j : Nat} (r : Nat → Nat) (hj : j < n) : lin r (fun i => decide (i = j)) n = r j := by
  apply eq_of_bits
  intro b
  rw [lin_bit, ← par_one hj ((r j).testBit b)]
  apply par_congr
  intro i _
  by_cases h : i = j
  · subst h; rfl
  · simp [h]
theorem lin_zero (r : Nat → Nat) (n : Nat) : lin r (fun _ => false) n = 0 := by
  induction n with
  | zero => rfl
  | succ n ih => rw [lin, ih]; rfl
theorem lin_lt {r : Nat → Nat} {c : Nat → Bool} {n m : Nat} (h : ∀ i, i < n → r i < 2 ^ m) : lin r c n < 2 ^ m := by
  induction n with
  | zero => exact Nat.pow_pos (by decide)
  | succ n ih =>
    rw [lin]
    split
    · exact Nat.xor_lt_two_pow (ih (fun i hi => h i (by omega))) (h n (by omega))
    · exact ih (fun i hi => h i (by omega))

def Sp (r : Nat → Nat) (n x : Nat) : Prop := ∃ c, lin r c n = x
def Ind (r : Nat → Nat) (n : Nat) : Prop := ∀ c, lin r c n = 0 → ∀ i, i < n → c i = false
/-- all sums of one are sums of the other, and independence goes along -/
def Sub (r s : Nat → Nat) (n : Nat) : Prop := ∃ φ : (Nat → Bool) → (Nat → Bool), (∀ c, lin r c n = lin s (φ c) n) ∧ (∀ c, (∀ i, i < n → φ c i = false) → ∀ i, i < n → c i = false)
theorem Sub.sp {r s : Nat → Nat} {n x : Nat} (h : Sub r s n) (g : Sp r n x) : Sp s n x := by
  obtain ⟨φ, h1, _⟩ := h
  obtain ⟨c, rfl⟩ := g
  exact ⟨φ c, (h1 c).symm⟩
theorem Sub.ind {r s : Nat → Nat} {n : Nat} (h : Sub r s n) (g : Ind s n) : Ind r n := by
  obtain ⟨φ, h1, h2⟩ := h
  intro c hc
  exact h2 c (g _ ((h1 c).symm.trans hc))
theorem Sub.refl (r : Nat → Nat) (n : Nat) : Sub r r n := ⟨id, fun _ => rfl, fun _ h => h⟩
theorem Sub.trans {r s t : Nat → Nat} {n : Nat} (h : Sub r s n) (g : Sub s t n) : Sub r t n := by
  obtain ⟨φ, h1, h2⟩ := h
  obtain ⟨ψ, g1, g2⟩ := g
  exact ⟨fun c => ψ (φ c), fun c => (h1 c).trans (g1 _), fun c hc => h2 c (g2 _ hc)⟩
theorem Sub.congr {r s r' s' : Nat → Nat} {n : Nat} (h : Sub r s n) (h1 : ∀ i, i < n → r' i = r i) (h2 : ∀ i, i < n → s' i = s i) : Sub r' s' n := by
  obtain ⟨φ, g1, g2⟩ := h
  exact ⟨φ, fun c => (lin_congr h1 (fun _ _ => rfl)).trans ((g1 c).trans (lin_congr h2 (fun _ _ => rfl)).symm), g2⟩

/-- one row is added to another one -/
def addR (r : Nat → Nat) (k j : Nat) : Nat → Nat := fun i => if i = j then r j ^^^ r k else r i
theorem add_sub {r : Nat → Nat} {n k j : Nat} (hj : j < n) (hk : k < n) (hne : j ≠ k) : Sub (addR r k j) r n := by
  refine ⟨fun c i => if i = k then Bool.xor (c k) (c j) else c i, fun c => ?_, fun c h => ?_⟩
  · apply eq_of_bits
    intro b
    rw [lin_bit, lin_bit]
    have e1 : par (fun i => c i && (addR r k j i).testBit b) n = par (fun i => Bool.xor (c i && (r i).testBit b) (decide (i = j) && (c j && (r k).testBit b))) n := by
      apply par_congr
      intro i _
      unfold addR
      by_cases h : i = j
      · subst h
        simp only [if_true, Nat.testBit_xor, decide_true, Bool.true_and]
        cases c i <;> cases (r i).testBit b <;> cases (r k).testBit b <;> rfl
      · rw [if_neg h]; simp [h]
    have e2 : par (fun i => (if i = k then Bool.xor (c k) (c j) else c i) && (r i).testBit b) n = par (fun i => Bool.xor (c i && (r i).testBit b) (decide (i = k) && (c j && (r k).testBit b))) n := by
      apply par_congr
      intro i _
      by_cases h : i = k
      · subst h
        simp only [if_true, decide_true, Bool.true_and]
        cases c i <;> cases c j <;> cases (r i).testBit b <;> rfl
      · rw [if_neg h]; simp [h]
    rw [e1, e2, par_xor, par_xor, par_one hj, par_one hk]
  · have hj0 : c j = false := by have := h j hj; dsimp only at this; rwa [if_neg hne] at this
    intro i hi
    have := h i hi
    dsimp only at this
    by_cases h2 : i = k
    · subst h2
      rw [if_pos rfl, hj0] at this
      simpa using this
    · rwa [if_neg h2] at this
theorem add_add {r : Nat → Nat} {k j : Nat} (hne : j ≠ k) (i : Nat) : addR (addR r k j) k j i = r i := by
  unfold addR
  by_cases h : i = j
  · subst h
    rw [if_pos rfl, if_pos rfl, if_neg (by omega), Nat.xor_assoc, Nat.xor_self, Nat.xor_zero]
  · rw [if_neg h, if_neg h]
theorem add_sup {r : Nat → Nat} {n k j : Nat} (hj : j < n) (hk : k < n) (hne : j ≠ k) : Sub r (addR r k j) n :=
  (add_sub (r := addR r k j) hj hk hne).congr (fun i _ => (add_add hne i).symm) (fun _ _ => rfl)

/-- two rows are exchanged -/
def exch (a k i : Nat) : Nat := if i = a then k else if i = k then a else i
theorem par_exch {f : Nat → Bool} {n a k : Nat} (ha : a < n) (hk : k < n) : par (fun i => f (exch a k i)) n = par f n := by
  have e : par (fun i => f (exch a k i)) n = par (fun i => Bool.xor (f i) (Bool.xor (decide (i = a) && Bool.xor (f a) (f k)) (decide (i = k) && Bool.xor (f a) (f k)))) n := by
    apply par_congr
    intro i _
    unfold exch
    by_cases h1 : i = a
    · subst h1
      by_cases h2 : i = k
      · subst h2
        simp
      · simp only [if_true, decide_true, Bool.true_and, h2, decide_false, Bool.false_and, Bool.xor_false]
        cases f i <;> cases f k <;> rfl
    · by_cases h2 : i = k
      · subst h2
        simp only [h1, if_false, if_true, decide_true, Bool.true_and, decide_false, Bool.false_and, Bool.false_xor]
        cases f i <;> cases f a <;> rfl
      · simp [h1, h2]
  rw [e, par_xor, par_xor, par_one ha, par_one hk]
  cases par f n <;> cases f a <;> cases f k <;> rfl
theorem exch_exch (a k i : Nat) : exch a k (exch a k i) = i := by
  unfold exch
  split
  · split
    · omega
    · split <;> omega
  · split
    · split
      · omega
      · split <;> omega
    · rfl
theorem exch_lt {n a k i : Nat} (ha : a < n) (hk : k < n) (hi : i < n) : exch a k i < n := by
  unfold exch; split
  · exact hk
  · split
    · exact ha
    · exact hi
theorem exch_sub {r : Nat → Nat} {n a k : Nat} (ha : a < n) (hk : k < n) : Sub (fun i => r (exch a k i)) r n := by
  refine ⟨fun c i => c (exch a k i), fun c => ?_, fun c h i hi => ?_⟩
  · apply eq_of_bits
    intro b
    rw [lin_bit, lin_bit, ← par_exch ha hk]
    apply par_congr
    intro i _
    simp only [exch_exch]
  · have := h (exch a k i) (exch_lt ha hk hi)
    dsimp only at this
    rwa [exch_exch] at this
theorem exch_sup {r : Nat → Nat} {n a k : Nat} (ha : a < n) (hk : k < n) : Sub r (fun i => r (exch a k i)) n :=
  (exch_sub (r := fun i => r (exch a k i)) ha hk).congr (fun i _ => by simp only [exch_exch]) (fun _ _ => rfl)
/-! rows in steps -/
structure Ech (r : Nat → Nat) (n k m : Nat) (T : Nat → Nat) : Prop where
  kn : k ≤ n
  top : ∀ q, q < k → m ≤ T q
  one : ∀ q, q < k → (r q).testBit (T q) = true
  only : ∀ q, q < k → ∀ s, s < n → s ≠ q → (r s).testBit (T q) = false
  high : ∀ q, q < k → ∀ c, T q < c → (r q).testBit c = false
  low : ∀ s, k ≤ s → s < n → ∀ c, m ≤ c → (r s).testBit c = false
theorem Ech.congr {r s : Nat → Nat} {n k m : Nat} {T : Nat → Nat} (h : Ech r n k m T) (e : ∀ i, i < n → s i = r i) : Ech s n k m T :=
  ⟨h.kn, h.top, fun q hq => by rw [e q (Nat.lt_of_lt_of_le hq h.kn)]; exact h.one q hq, fun q hq i hi hne => by rw [e i hi]; exact h.only q hq i hi hne, fun q hq c hc => by rw [e q (Nat.lt_of_lt_of_le hq h.kn)]; exact h.high q hq c hc, fun i h1 h2 c hc => by rw [e i h2]; exact h.low i h1 h2 c hc⟩
theorem Ech.start {r : Nat → Nat} {n m : Nat} (h : ∀ i, i < n → r i < 2 ^ m) (T : Nat → Nat) : Ech r n 0 m T :=
  ⟨Nat.zero_le _, fun q hq => absurd hq (Nat.not_lt_zero _), fun q hq => absurd hq (Nat.not_lt_zero _), fun q hq => absurd hq (Nat.not_lt_zero _), fun q hq => absurd hq (Nat.not_lt_zero _), fun s _ hs c hc => Nat.testBit_lt_two_pow (Nat.lt_of_lt_of_le (h s hs) (Nat.pow_le_pow_right (by decide) hc))⟩
theorem Ech.skip {r : Nat → Nat} {n k m : Nat} {T : Nat → Nat} (h : Ech r n k (m + 1) T) (hno : ∀ s, k ≤ s → s < n → (r s).testBit m = false) : Ech r n k m T :=
  ⟨h.kn, fun q hq => by have := h.top q hq; omega, h.one, h.only, h.high, fun s h1 h2 c hc => by
    by_cases e : c = m
    · subst e; exact hno s h1 h2
    · exact h.low s h1 h2 c (by omega)⟩
theorem Ech.swap {r : Nat → Nat} {n k m a : Nat} {T : Nat → Nat} (h : Ech r n k m T) (ha : k ≤ a) (han : a < n) : Ech (fun i => r (exch a k i)) n k m T := by
  have hlow : ∀ q, q < k → exch a k q = q := fun q hq => by unfold exch; rw [if_neg (by omega), if_neg (by omega)]
  refine ⟨h.kn, h.top, fun q hq => ?_, fun q hq s hs hne => ?_, fun q hq c hc => ?_, fun s h1 h2 c hc => ?_⟩
  · show (r (exch a k q)).testBit _ = _
    rw [hlow q hq]; exact h.one q hq
  · refine h.only q hq _ (exch_lt han (by omega) hs) (fun e => hne ?_)
    have := congrArg (exch a k) e
    rw [exch_exch, hlow q hq] at this
    exact this
  · show (r (exch a k q)).testBit _ = _
    rw [hlow q hq]; exact h.high q hq c hc
  · refine h.low _ ?_ (exch_lt han (by omega) h2) c hc
    unfold exch; split
    · exact Nat.le_refl _
    · split <;> omega
/-- a column is cleared but in one row -/
def clearR (r : Nat → Nat) (m k : Nat) : Nat → Nat → Nat
  | 0 => r
  | j + 1 => if j ≠ k ∧ (clearR r m k j j).testBit m = true then addR (clearR r m k j) k j else clearR r m k j
theorem clear_is (r : Nat → Nat) (m k j q : Nat) : clearR r m k j q = if q < j ∧ q ≠ k ∧ (r q).testBit m = true then r q ^^^ r k else r q := by
  induction j generalizing q with
  | zero => simp [clearR]
  | succ j ih =>
    have hk : clearR r m k j k = r k := by rw [ih]; simp
    have hj : clearR r m k j j = r j := by rw [ih]; simp
    rw [clearR]
    by_cases h : j ≠ k ∧ (clearR r m k j j).testBit m = true
    · rw [if_pos h]
      rw [hj] at h
      unfold addR
      by_cases e : q = j
      · subst e
        rw [if_pos rfl, hk, hj, if_pos ⟨by omega, h.1, h.2⟩]
      · rw [if_neg e, ih]
        by_cases h2 : q < j ∧ q ≠ k ∧ (r q).testBit m = true
        · rw [if_pos h2, if_pos ⟨by omega, h2.2⟩]
        · rw [if_neg h2, if_neg (fun h3 => h2 ⟨by omega, h3.2⟩)]
    · rw [if_neg h, ih]
      rw [hj] at h
      by_cases h2 : q < j ∧ q ≠ k ∧ (r q).testBit m = true
      · rw [if_pos h2, if_pos ⟨by omega, h2.2⟩]
      · rw [if_neg h2, if_neg (fun h3 => by
          by_cases e : q = j
          · subst e; exact h ⟨h3.2.1, h3.2.2⟩
          · exact h2 ⟨by omega, h3.2⟩)]
theorem clear_sub (r : Nat → Nat) {n m k : Nat} (hk : k < n) : ∀ j, j ≤ n → Sub (clearR r m k j) r n ∧ Sub r (clearR r m k j) n
  | 0, _ => ⟨Sub.refl _ _, Sub.refl _ _⟩
  | j + 1, hj => by
    obtain ⟨h1, h2⟩ := clear_sub r hk j (by omega)
    rw [clearR]
    split
    · rename_i h
      exact ⟨(add_sub (by omega) hk h.1).trans h1, h2.trans (add_sup (by omega) hk h.1)⟩
    · exact ⟨h1, h2⟩
theorem Ech.pivot {r : Nat → Nat} {n k m : Nat} {T : Nat → Nat} (h : Ech r n k (m + 1) T) (hk : k < n) (hp : (r k).testBit m = true) : Ech (clearR r m k n) n (k + 1) m (fun q => if q = k then m else T q) := by
  have hcl : ∀ s c, s < n → (clearR r m k n s).testBit c = if s ≠ k ∧ (r s).testBit m = true then Bool.xor ((r s).testBit c) ((r k).testBit c) else (r s).testBit c := fun s c hs => by
    rw [clear_is]
    by_cases h1 : s ≠ k ∧ (r s).testBit m = true
    · rw [if_pos ⟨hs, h1⟩, if_pos h1, Nat.testBit_xor]
    · rw [if_neg (fun h2 => h1 h2.2), if_neg h1]
  have hkz : ∀ c, m + 1 ≤ c → (r k).testBit c = false := fun c hc => h.low k (Nat.le_refl _) hk c hc
  have hsame : ∀ s c, s < n → m + 1 ≤ c → (clearR r m k n s).testBit c = (r s).testBit c := fun s c hs hc => by
    rw [hcl s c hs, hkz c hc]
    split
    · cases (r s).testBit c <;> rfl
    · rfl
  refine ⟨by omega, fun q hq => ?_, fun q hq => ?_, fun q hq s hs hne => ?_, fun q hq c hc => ?_, fun s h1 h2 c hc => ?_⟩
  · split
    · exact Nat.le_refl _
    · have := h.top q (by omega); omega
  · by_cases e : q = k
    · subst e
      simp only [if_true]
      rw [hcl q m hk, if_neg (by simp), hp]
    · simp only [e, if_false]
      have := h.top q (by omega)
      rw [hsame q _ (by omega) this]
      exact h.one q (by omega)
  · by_cases e : q = k
    · subst e
      simp only [if_true]
      rw [hcl s m hs]
      by_cases h3 : (r s).testBit m = true
      · rw [if_pos ⟨hne, h3⟩, h3, hp]; rfl
      · rw [if_neg (fun h4 => h3 h4.2)]; simpa using h3
    · simp only [e, if_false]
      have := h.top q (by omega)
      rw [hsame s _ hs this]
      exact h.only q (by omega) s hs hne
  · by_cases e : q = k
    · subst e
      simp only [if_true] at hc
      rw [hsame q c hk (by omega)]
      exact hkz c (by omega)
    · simp only [e, if_false] at hc
      have := h.top q (by omega)
      rw [hsame q c (by omega) (by omega)]
      exact h.high q (by omega) c hc
  · by_cases e : c = m
    · subst e
      rw [hcl s c h2]
      by_cases h3 : (r s).testBit c = true
      · rw [if_pos ⟨by omega, h3⟩, h3, hp]; rfl
      · rw [if_neg (fun h4 => h3 h4.2)]; simpa using h3
    · rw [hsame s c h2 (by omega)]
      exact h.low s (by omega) h2 c (by omega)
theorem Ech.coef {r : Nat → Nat} {n k m : Nat} {T : Nat → Nat} (h : Ech r n k m T) (c : Nat → Bool) {q : Nat} (hq : q < k) : (lin r c n).testBit (T q) = c q := by
  rw [lin_bit, ← par_one (Nat.lt_of_lt_of_le hq h.kn) (c q)]
  apply par_congr
  intro i hi
  by_cases e : i = q
  · subst e; rw [h.one i hq]; simp
  · rw [h.only q hq i hi e]; simp [e]
theorem Ech.ind {r : Nat → Nat} {n m : Nat} {T : Nat → Nat} (h : Ech r n n m T) : Ind r n := fun c hc i hi => by
  have := h.coef c hi
  rw [hc, Nat.zero_testBit] at this
  exact this.symm
theorem Ech.full {r : Nat → Nat} {n k : Nat} {T : Nat → Nat} (h : Ech r n k 0 T) (hi : Ind r n) : k = n := by
  rcases Nat.lt_or_ge k n with hk | hk
  · have hz : r k = 0 := eq_of_bits fun b => by rw [h.low k (Nat.le_refl _) hk b (Nat.zero_le _), Nat.zero_testBit]
    have := hi (fun i => decide (i = k)) (by rw [lin_one r hk, hz]) k hk
    simp at this
  · have := h.kn; omega
theorem Ech.inj {r : Nat → Nat} {n k m : Nat} {T : Nat → Nat} (h : Ech r n k m T) {p q : Nat} (hp : p < k) (hq : q < k) (e : T p = T q) : p = q := by
  by_cases hne : p = q
  · exact hne
  · have h1 := h.only q hq p (Nat.lt_of_lt_of_le hp h.kn) hne
    rw [← e, h.one p hp] at h1
    cases h1
theorem Ech.lt {r : Nat → Nat} {n k m M : Nat} {T : Nat → Nat} (h : Ech r n k m T) (hr : ∀ i, i < n → r i < 2 ^ M) {q : Nat} (hq : q < k) : T q < M := by
  rcases Nat.lt_or_ge (T q) M with h1 | h1
  · exact h1
  · have h2 := h.one q hq
    rw [Nat.testBit_lt_two_pow (Nat.lt_of_lt_of_le (hr q (Nat.lt_of_lt_of_le hq h.kn)) (Nat.pow_le_pow_right (by decide) h1))] at h2
    cases h2
/-! the other code: words that have even numbers in common with all -/
def dot (x y : Nat) (B : Nat) : Bool := par (fun b => x.testBit b && y.testBit b) B
theorem dot_comm (x y B : Nat) : dot x y B = dot y x B := par_congr fun _ _ => Bool.and_comm _ _
theorem dot_xor (x y z B : Nat) : dot x (y ^^^ z) B = Bool.xor (dot x y B) (dot x z B) := by
  unfold dot
  rw [← par_xor]
  apply par_congr
  intro i _
  rw [Nat.testBit_xor]
  cases x.testBit i <;> cases y.testBit i <;> cases z.testBit i <;> rfl
theorem dot_zero (x B : Nat) : dot x 0 B = false := par_false fun _ _ => by rw [Nat.zero_testBit, Bool.and_false]
theorem dot_pow (x : Nat) {i B : Nat} (h : i < B) : dot x (2 ^ i) B = x.testBit i := by
  unfold dot
  rw [← par_one h (x.testBit i)]
  apply par_congr
  intro b _
  rw [Nat.testBit_two_pow]
  by_cases e : b = i
  · subst e; simp
  · have : ¬ i = b := fun h => e h.symm
    simp [e, this]
theorem dot_lin (x : Nat) (r : Nat → Nat) (c : Nat → Bool) (n B : Nat) : dot x (lin r c n) B = par (fun q => c q && dot x (r q) B) n := by
  induction n with
  | zero => exact dot_zero x B
  | succ n ih =>
    rw [lin, par, ← ih]
    cases hc : c n
    · simp
    · simp [dot_xor]
/-- some powers of 2 joined to a number -/
def ors (g : Nat → Bool) (p : Nat → Nat) (s : Nat) : Nat → Nat | 0 => s | k + 1 => if g k then ors g p s k ||| 2 ^ p k else ors g p s k
theorem or_pow {a p : Nat} (h : a.testBit p = false) : a ||| 2 ^ p = a ^^^ 2 ^ p := by
  apply eq_of_bits
  intro b
  rw [Nat.testBit_or, Nat.testBit_xor, Nat.testBit_two_pow]
  by_cases e : p = b
  · subst e; rw [h]; simp
  · simp [e]
theorem ors_lin {g : Nat → Bool} {p : Nat → Nat} {s n : Nat} (hs : ∀ q, q < n → s.testBit (p q) = false) (hinj : ∀ a b, a < n → b < n → p a = p b → a = b) : ∀ k, k ≤ n → ors g p s k = s ^^^ lin (fun q => 2 ^ p q) g k
  | 0, _ => by simp [ors, lin]
  | k + 1, hk => by
    rw [ors, lin, ors_lin hs hinj k (by omega)]
    cases g k
    · rfl
    · simp only [if_true]
      rw [or_pow, Nat.xor_assoc]
      rw [Nat.testBit_xor, hs k (by omega), lin_bit, par_false]
      · rfl
      · intro i hi
        rw [Nat.testBit_two_pow]
        have : ¬ p i = p k := fun e => by have := hinj i k (by omega) (by omega) e; omega
        simp [this]
theorem ors_bit (g : Nat → Bool) (p : Nat → Nat) (s : Nat) (b : Nat) : ∀ k, (ors g p s k).testBit b = true ↔ s.testBit b = true ∨ ∃ q, q < k ∧ g q = true ∧ p q = b
  | 0 => by simp [ors]
  | k + 1 => by
    rw [ors]
    by_cases h : g k = true
    · rw [if_pos h, Nat.testBit_or, Bool.or_eq_true, ors_bit g p s b k, Nat.testBit_two_pow]
      constructor
      · rintro ((h1 | ⟨q, h1, h2⟩) | h1)
        · exact .inl h1
        · exact .inr ⟨q, by omega, h2⟩
        · exact .inr ⟨k, by omega, h, by simpa using h1⟩
      · rintro (h1 | ⟨q, h1, h2, h3⟩)
        · exact .inl (.inl h1)
        · by_cases e : q = k
          · subst e; exact .inr (by simpa using h3)
          · exact .inl (.inr ⟨q, by omega, h2, h3⟩)
    · rw [if_neg h, ors_bit g p s b k]
      constructor
      · rintro (h1 | ⟨q, h1, h2⟩)
        · exact .inl h1
        · exact .inr ⟨q, by omega, h2⟩
      · rintro (h1 | ⟨q, h1, h2, h3⟩)
        · exact .inl h1
        · by_cases e : q = k
          · subst e; exact absurd h2 h
          · exact .inr ⟨q, by omega, h2, h3⟩
theorem ors_lt {g : Nat → Bool} {p : Nat → Nat} {s m : Nat} (hs : s < 2 ^ m) : ∀ k, (∀ q, q < k → p q < m) → ors g p s k < 2 ^ m
  | 0, _ => hs
  | k + 1, h => by
    rw [ors]
    split
    · exact Nat.or_lt_two_pow (ors_lt hs k fun q hq => h q (by omega)) (Nat.pow_lt_pow_right (by decide) (h k (by omega)))
    · exact ors_lt hs k fun q hq => h q (by omega)
def topsN (T : Nat → Nat) (n : Nat) : Nat := ors (fun _ => true) T 0 n
def wordN (E T : Nat → Nat) (n i : Nat) : Nat := ors (fun q => (E q).testBit i) T (2 ^ i) n
theorem tops_bit (T : Nat → Nat) (n b : Nat) : (topsN T n).testBit b = true ↔ ∃ q, q < n ∧ T q = b := by
  unfold topsN
  rw [ors_bit]
  simp
theorem word_is {E T : Nat → Nat} {n : Nat} (h : Ech E n n 0 T) {i : Nat} (hi : (topsN T n).testBit i = false) : wordN E T n i = 2 ^ i ^^^ lin (fun q => 2 ^ T q) (fun q => (E q).testBit i) n :=
  ors_lin (n := n) (fun q hq => by
    rw [Nat.testBit_two_pow]
    have : ¬ i = T q := fun e => by
      rw [(tops_bit T n i).2 ⟨q, hq, e.symm⟩] at hi
      cases hi
    simp [this]) (fun a b ha hb e => h.inj ha hb e) n (Nat.le_refl _)
theorem word_one (E T : Nat → Nat) (n : Nat) {i : Nat} (j : Nat) (hj : (topsN T n).testBit j = false) : (wordN E T n i).testBit j = decide (i = j) := by
  cases hw : (wordN E T n i).testBit j
  · have h1 : ¬ ((2 ^ i).testBit j = true ∨ ∃ q, q < n ∧ (E q).testBit i = true ∧ T q = j) := fun h2 => by
      rw [← ors_bit] at h2
      exact absurd (h2.symm.trans hw) (by simp)
    rw [Nat.testBit_two_pow] at h1
    simp only [not_or] at h1
    simpa using h1.1
  · rcases (ors_bit _ _ _ _ _).1 hw with h1 | ⟨q, h1, _, h3⟩
    · rw [Nat.testBit_two_pow] at h1; simpa using h1.symm
    · rw [(tops_bit T n j).2 ⟨q, h1, h3⟩] at hj; cases hj
theorem word_dot {E T : Nat → Nat} {n M : Nat} (h : Ech E n n 0 T) (hE : ∀ i, i < n → E i < 2 ^ M) (x : Nat) {i : Nat} (hi : (topsN T n).testBit i = false) (hiM : i < M) : dot x (wordN E T n i) M = Bool.xor (x.testBit i) (par (fun q => (E q).testBit i && x.testBit (T q)) n) := by
  rw [word_is h hi, dot_xor, dot_pow x hiM, dot_lin]
  congr 1
  apply par_congr
  intro q hq
  rw [dot_pow x (h.lt hE hq)]
/-- what has even numbers in common with all these words is a sum of rows, and the other way round -/
theorem dual_zero {E T : Nat → Nat} {n M : Nat} (h : Ech E n n 0 T) (hE : ∀ i, i < n → E i < 2 ^ M) {x : Nat} (hx : x < 2 ^ M) : (∀ i, i < M → (topsN T n).testBit i = false → dot x (wordN E T n i) M = false) ↔ Sp E n x := by
  constructor
  · intro hz
    refine ⟨fun q => x.testBit (T q), ?_⟩
    apply eq_of_bits
    intro b
    by_cases hb : b < M
    · cases ht : (topsN T n).testBit b
      · have h1 := hz b hb ht
        rw [word_dot h hE x ht hb] at h1
        rw [lin_bit]
        have e : par (fun q => x.testBit (T q) && (E q).testBit b) n = par (fun q => (E q).testBit b && x.testBit (T q)) n := par_congr fun i _ => Bool.and_comm _ _
        rw [e]
        revert h1
        cases x.testBit b <;> cases par (fun q => (E q).testBit b && x.testBit (T q)) n <;> simp
      · obtain ⟨q, hq, rfl⟩ := (tops_bit T n b).1 ht
        exact h.coef _ hq
    · rw [Nat.testBit_lt_two_pow (Nat.lt_of_lt_of_le hx (Nat.pow_le_pow_right (by decide) (by omega)))]
      exact Nat.testBit_lt_two_pow (Nat.lt_of_lt_of_le (lin_lt hE) (Nat.pow_le_pow_right (by decide) (by omega)))
  · rintro ⟨c, rfl⟩ i hi ht
    rw [word_dot h hE _ ht hi, lin_bit]
    have e : par (fun q => (E q).testBit i && (lin E c n).testBit (T q)) n = par (fun q => c q && (E q).testBit i) n := par_congr fun q hq => by rw [h.coef c hq, Bool.and_comm]
    rw [e]
    simp
/-! how many digits are 1 -/
def cnt (f : Nat → Bool) : Nat → Nat | 0 => 0 | k + 1 => cnt f k + if f k then 1 else 0
theorem cnt_congr {f g : Nat → Bool} {n : Nat} (h : ∀ i, i < n → f i = g i) : cnt f n = cnt g n := by
  induction n with
  | zero => rfl
  | succ n ih => rw [cnt, cnt, ih (fun i hi => h i (by omega)), h n (by omega)]
theorem cnt_par (f : Nat → Bool) (n : Nat) : par f n = decide (cnt f n % 2 = 1) := by
  induction n with
  | zero => rfl
  | succ n ih =>
    rw [par, cnt, ih]
    rcases Nat.mod_two_eq_zero_or_one (cnt f n) with h | h <;> cases f n <;> simp [h] <;> omega
theorem cnt_xor (f g : Nat → Bool) (n : Nat) : cnt (fun i => Bool.xor (f i) (g i)) n ≤ cnt f n + cnt g n := by
  induction n with
  | zero => exact Nat.le_refl _
  | succ n ih => rw [cnt, cnt, cnt]; cases f n <;> cases g n <;> simp <;> omega
theorem cnt_set {f : Nat → Bool} {n j : Nat} (hj : j < n) (hf : f j = false) : cnt (fun i => Bool.xor (f i) (decide (j = i))) n = cnt f n + 1 := by
  induction n with
  | zero => omega
  | succ n ih =>
    rw [cnt, cnt]
    by_cases e : j = n
    · subst e
      have : cnt (fun i => Bool.xor (f i) (decide (j = i))) j = cnt f j := cnt_congr fun i hi => by
        have : ¬ j = i := by omega
        simp [this]
      rw [this, hf]
      simp
    · rw [ih (by omega)]
      simp [e]
      omega
theorem cnt_zero {f : Nat → Bool} {n : Nat} (h : cnt f n = 0) : ∀ i, i < n → f i = false := by
  induction n with
  | zero => intro i hi; omega
  | succ n ih =>
    rw [cnt] at h
    intro i hi
    by_cases e : i = n
    · subst e
      cases hf : f i
      · rfl
      · rw [hf] at h; simp at h
    · exact ih (by omega) i (by omega)
theorem cnt_false {f : Nat → Bool} {n : Nat} (h : ∀ i, i < n → f i = false) : cnt f n = 0 := by
  induction n with
  | zero => rfl
  | succ n ih => rw [cnt, ih (fun i hi => h i (by omega)), h n (by omega)]; rfl
theorem cnt_not (f : Nat → Bool) (n : Nat) : cnt (fun i => !f i) n + cnt f n = n := by
  induction n with
  | zero => rfl
  | succ n ih => rw [cnt, cnt]; cases f n <;> simp <;> omega
theorem cnt_filter (f : Nat → Bool) (n : Nat) : ((List.range n).filter f).length = cnt f n := by
  induction n with
  | zero => rfl
  | succ n ih =>
    rw [List.range_succ, List.filter_append, List.length_append, ih, cnt]
    cases h : f n <;> simp [h]
theorem cnt_more {f : Nat → Bool} {n : Nat} (q : Nat) (h : ∀ i, n ≤ i → f i = false) : cnt f (n + q) = cnt f n := by
  induction q with
  | zero => rfl
  | succ q ih => rw [show n + (q + 1) = (n + q) + 1 by omega, cnt, ih, h _ (by omega)]; rfl
def wtN (x M : Nat) : Nat := cnt x.testBit M
theorem wtN_xor (x y M : Nat) : wtN (x ^^^ y) M ≤ wtN x M + wtN y M := by
  unfold wtN
  rw [cnt_congr (g := fun i => Bool.xor (x.testBit i) (y.testBit i)) (fun i _ => Nat.testBit_xor _ _ _)]
  exact cnt_xor _ _ _
theorem wtN_put {x M b : Nat} (hb : b < M) (h : x.testBit b = false) : wtN (x ^^^ 2 ^ b) M = wtN x M + 1 := by
  unfold wtN
  rw [← cnt_set hb h]
  apply cnt_congr
  intro i _
  rw [Nat.testBit_xor, Nat.testBit_two_pow]
theorem wtN_eq_zero {x M : Nat} (hx : x < 2 ^ M) (h : wtN x M = 0) : x = 0 := by
  apply eq_of_bits
  intro b
  rw [Nat.zero_testBit]
  by_cases hb : b < M
  · exact cnt_zero h b hb
  · exact Nat.testBit_lt_two_pow (Nat.lt_of_lt_of_le hx (Nat.pow_le_pow_right (by decide) (by omega)))
theorem wtN_zero (M : Nat) : wtN 0 M = 0 := cnt_false fun i _ => Nat.zero_testBit i
/-- different powers of 2 -/
theorem wtN_pows {p : Nat → Nat} {M : Nat} : ∀ k, (∀ q, q < k → p q < M) → (∀ a b, a < k → b < k → p a = p b → a = b) → wtN (lin (fun q => 2 ^ p q) (fun _ => true) k) M = k
  | 0, _, _ => wtN_zero M
  | k + 1, h1, h2 => by
    rw [lin, if_pos rfl, wtN_put (h1 k (by omega)), wtN_pows k (fun q hq => h1 q (by omega)) (fun a b ha hb => h2 a b (by omega) (by omega))]
    rw [lin_bit]
    apply par_false
    intro i hi
    rw [Nat.testBit_two_pow]
    have : ¬ p i = p k := fun e => by have := h2 i k (by omega) (by omega) e; omega
    simp [this]
theorem tops_count {E T : Nat → Nat} {n M : Nat} (h : Ech E n n 0 T) (hE : ∀ i, i < n → E i < 2 ^ M) : ((List.range M).filter fun i => !(topsN T n).testBit i).length + n = M := by
  have e : topsN T n = lin (fun q => 2 ^ T q) (fun _ => true) n := by
    have := ors_lin (g := fun _ => true) (p := T) (s := 0) (n := n) (fun q _ => Nat.zero_testBit _) (fun a b ha hb e => h.inj ha hb e) n (Nat.le_refl _)
    rw [Nat.zero_xor] at this
    exact this
  have hw := wtN_pows (p := T) (M := M) n (fun q hq => h.lt hE hq) (fun a b ha hb e => h.inj ha hb e)
  rw [← e] at hw
  have := cnt_not (topsN T n).testBit M
  rw [cnt_filter]
  unfold wtN at hw
  omega
end Go.Proofs.Ytldnhflgpbcmeaa
