/-
  Plain: rows in steps, words of rows, weights and distances.
  Conditions: as each theorem says.
-/
import Derived.Test.YtldnhflgpbcmeaaCB
namespace Go.Proofs.Ytldnhflgpbcmeaa
open Go.RowKit

/-- a word has a digit -/
def hasD (x i : Int) : Bool := bits .and .i64 (x / 2 ^ i.toNat) 1 == 1
def xorI (a b : Int) : Int := bits .xor .i64 a b
/-- the first row from a place on that has a digit; the length if there is none -/
def findAt (rows : List Int) (i : Int) (k : Nat) : Nat := k + (rows.drop k).findIdx fun r => hasD r i
def swapL (rows : List Int) (k at_ : Nat) : List Int := (rows.set k (rows.getD at_ 0)).set at_ (rows.getD k 0)
def elimK (rows : List Int) (i : Int) (k : Nat) : Nat → List Int
  | 0 => rows
  | j + 1 => if j ≠ k ∧ hasD ((elimK rows i k j).getD j 0) i = true then (elimK rows i k j).set j (xorI ((elimK rows i k j).getD j 0) ((elimK rows i k j).getD k 0)) else elimK rows i k j
def stepsGo : Nat → List Int × Nat → List Int × Nat
  | 0, s => s
  | m + 1, s => if findAt s.1 m s.2 < s.1.length then stepsGo m (elimK (swapL s.1 s.2 (findAt s.1 m s.2)) m s.2 s.1.length, s.2 + 1) else stepsGo m s
def stepsOf (m : Int) (rows : List Int) : List Int × Nat := stepsGo m.toNat (rows, 0)
def parRows (m : Int) (rows : List Int) : Bool := inB m 1 16 && decide (1 ≤ rows.length) && decide (rows.length ≤ 8) && rows.all fun x => inB x 0 (2 ^ m.toNat - 1)
def validParB (m : Int) (rows : List Int) : Bool := parRows m rows && ((stepsOf m rows).2 == rows.length)

theorem swapL_len (rows : List Int) (k a : Nat) : (swapL rows k a).length = rows.length := by simp [swapL]
theorem elimK_len (rows : List Int) (i : Int) (k j : Nat) : (elimK rows i k j).length = rows.length := by
  induction j with
  | zero => rfl
  | succ j ih => rw [elimK]; split <;> simp [ih]
theorem findAt_bd (rows : List Int) (i : Int) (k : Nat) (hk : k ≤ rows.length) : k ≤ findAt rows i k ∧ findAt rows i k ≤ rows.length := by
  have := List.findIdx_le_length (xs := rows.drop k) (p := fun r => hasD r i)
  rw [List.length_drop] at this
  unfold findAt
  omega
theorem stepsGo_len (m : Nat) (s : List Int × Nat) : (stepsGo m s).1.length = s.1.length := by
  induction m generalizing s with
  | zero => rfl
  | succ m ih =>
    rw [stepsGo]
    split
    · rw [ih, elimK_len, swapL_len]
    · exact ih s
theorem stepsGo_full (m : Nat) (rows : List Int) : stepsGo m (rows, rows.length) = (rows, rows.length) := by
  induction m with
  | zero => rfl
  | succ m ih =>
    have h := findAt_bd rows m rows.length (Nat.le_refl _)
    rw [stepsGo, if_neg (by simp only []; omega)]
    exact ih
theorem stepsGo_k (m : Nat) (s : List Int × Nat) (h : s.2 ≤ s.1.length) : s.2 ≤ (stepsGo m s).2 ∧ (stepsGo m s).2 ≤ s.1.length := by
  induction m generalizing s with
  | zero => exact ⟨Nat.le_refl _, h⟩
  | succ m ih =>
    rw [stepsGo]
    have hb := findAt_bd s.1 m s.2 h
    split
    · rename_i hlt
      have := ih (elimK (swapL s.1 s.2 (findAt s.1 m s.2)) m s.2 s.1.length, s.2 + 1) (by simp only [elimK_len, swapL_len]; omega)
      simp only [elimK_len, swapL_len] at this
      omega
    · exact ih s h
/-- walking on to the first row with a digit -/
theorem findAt_no {rows : List Int} {i : Int} {k j : Nat} (hj : k ≤ j) (hl : j < findAt rows i k) (hlen : j < rows.length) : hasD (rows.getD j 0) i = false := by
  unfold findAt at hl
  have h1 : j - k < (rows.drop k).findIdx fun r => hasD r i := by omega
  have h2 := List.not_of_lt_findIdx h1
  simp only [List.getElem_drop] at h2
  have e : k + (j - k) = j := by omega
  simp only [e] at h2
  simpa [List.getD, hlen] using h2
theorem findAt_yes {rows : List Int} {i : Int} {k : Nat} (hlen : findAt rows i k < rows.length) : hasD (rows.getD (findAt rows i k) 0) i = true := by
  unfold findAt at hlen ⊢
  have h1 : ((rows.drop k).findIdx fun r => hasD r i) < (rows.drop k).length := by rw [List.length_drop]; omega
  have h2 := List.findIdx_getElem (w := h1)
  simp only [List.getElem_drop] at h2
  simpa [List.getD, hlen] using h2
theorem findAt_eq {rows : List Int} {i : Int} {k j : Nat} (hk : k ≤ j) (hj : j < rows.length) (h1 : ∀ q, k ≤ q → q < j → hasD (rows.getD q 0) i = false) (h2 : hasD (rows.getD j 0) i = true) : findAt rows i k = j := by
  have hb := findAt_bd rows i k (by omega)
  rcases Nat.lt_trichotomy (findAt rows i k) j with h | h | h
  · have h3 := findAt_yes (rows := rows) (i := i) (k := k) (by omega)
    rw [h1 _ hb.1 h] at h3
    cases h3
  · exact h
  · rw [findAt_no hk h hj] at h2
    cases h2
theorem findAt_none {rows : List Int} {i : Int} {k : Nat} (hk : k ≤ rows.length) (h1 : ∀ q, k ≤ q → q < rows.length → hasD (rows.getD q 0) i = false) : findAt rows i k = rows.length := by
  have hb := findAt_bd rows i k hk
  rcases Nat.lt_or_ge (findAt rows i k) rows.length with h | h
  · have h3 := findAt_yes h
    rw [h1 _ hb.1 h] at h3
    cases h3
  · omega
/-- the exchange in the other order -/
theorem swapL_other (rows : List Int) (k a : Nat) : (rows.set a (rows.getD k 0)).set k (rows.getD a 0) = swapL rows k a := by
  unfold swapL
  by_cases h : k = a
  · subst h; rfl
  · rw [List.set_comm _ _ (by omega)]

/-! ### words of rows -/
def encK (rows : List Int) (msg : Int) : Nat → Int
  | 0 => 0
  | i + 1 => if hasD msg i then xorI (encK rows msg i) (rows.getD i 0) else encK rows msg i
def encL (rows : List Int) (msg : Int) : Int := encK rows msg rows.length
def codeK (rows : List Int) (k : Nat) : List Int := (List.range k).map fun m : Nat => encL rows m
def codeL (rows : List Int) : List Int := codeK rows (2 ^ rows.length)
theorem codeK_succ (rows : List Int) (k : Nat) : codeK rows (k + 1) = codeK rows k ++ [encL rows k] := by simp [codeK, List.range_succ]
theorem codeK_len (rows : List Int) (k : Nat) : (codeK rows k).length = k := by simp [codeK]

theorem xorI_nat (a b : Nat) (ha : a < 65536) (hb : b < 65536) : xorI (a : Int) (b : Int) = ((a ^^^ b : Nat) : Int) := by
  have e1 : BitVec.ofInt 64 (a : Int) = BitVec.ofNat 64 a := BitVec.ofInt_natCast 64 a
  have e2 : BitVec.ofInt 64 (b : Int) = BitVec.ofNat 64 b := BitVec.ofInt_natCast 64 b
  have e3 : bits .xor .i64 (a : Int) (b : Int) = IntKind.i64.wrap ((BitVec.ofInt 64 (a : Int) ^^^ BitVec.ofInt 64 (b : Int)).toNat : Int) := rfl
  have h1 : a ^^^ b < 2 ^ 16 := Nat.xor_lt_two_pow (by omega) (by omega)
  have h2 : (BitVec.ofNat 64 a ^^^ BitVec.ofNat 64 b).toNat = a ^^^ b := by
    rw [BitVec.toNat_xor, BitVec.toNat_ofNat, BitVec.toNat_ofNat, Nat.mod_eq_of_lt (by omega), Nat.mod_eq_of_lt (by omega)]
  unfold xorI
  rw [e3, e1, e2, h2, IntWalk.i64_in _ (by omega)]
theorem xorI_bd {a b : Int} {m : Nat} (hm : m ≤ 16) (ha0 : 0 ≤ a) (ha : a < 2 ^ m) (hb0 : 0 ≤ b) (hb : b < 2 ^ m) : 0 ≤ xorI a b ∧ xorI a b < 2 ^ m := by
  obtain ⟨a, rfl⟩ : ∃ n : Nat, a = n := ⟨a.toNat, by omega⟩
  obtain ⟨b, rfl⟩ : ∃ n : Nat, b = n := ⟨b.toNat, by omega⟩
  have hp : (2 : Nat) ^ m ≤ 2 ^ 16 := Nat.pow_le_pow_right (by decide) hm
  have ha' : a < 2 ^ m := by exact_mod_cast ha
  have hb' : b < 2 ^ m := by exact_mod_cast hb
  rw [xorI_nat a b (by omega) (by omega)]
  have h1 : a ^^^ b < 2 ^ m := Nat.xor_lt_two_pow ha' hb'
  exact ⟨by omega, by exact_mod_cast h1⟩
theorem par_facts {m : Int} {rows : List Int} (h : parRows m rows = true) : 1 ≤ m ∧ m ≤ 16 ∧ 1 ≤ rows.length ∧ rows.length ≤ 8 ∧ ∀ x ∈ rows, 0 ≤ x ∧ x < 2 ^ m.toNat := by
  unfold parRows at h
  simp only [Bool.and_eq_true, decide_eq_true_eq, List.all_eq_true, inB_true] at h
  obtain ⟨⟨⟨⟨h1, h2⟩, h3⟩, h4⟩, h5⟩ := h
  exact ⟨h1, h2, h3, h4, fun x hx => by have h6 := h5 x hx; omega⟩
theorem getD_row {m : Nat} {rows : List Int} (h : ∀ x ∈ rows, 0 ≤ x ∧ x < 2 ^ m) (i : Nat) : 0 ≤ rows.getD i 0 ∧ rows.getD i 0 < 2 ^ m := by
  by_cases hi : i < rows.length
  · have := h _ (List.getElem_mem hi)
    simpa [List.getD, hi] using this
  · have h0 : rows.getD i 0 = 0 := by simp [List.getD, hi]
    rw [h0]
    exact ⟨Int.le_refl _, Int.pow_pos (by decide)⟩
theorem encK_bd {m : Nat} (hm : m ≤ 16) {rows : List Int} (h : ∀ x ∈ rows, 0 ≤ x ∧ x < 2 ^ m) (msg : Int) (k : Nat) : 0 ≤ encK rows msg k ∧ encK rows msg k < 2 ^ m := by
  induction k with
  | zero => exact ⟨Int.le_refl _, Int.pow_pos (by decide)⟩
  | succ k ih =>
    rw [encK]
    split
    · have h1 := getD_row h k
      exact xorI_bd hm ih.1 ih.2 h1.1 h1.2
    · exact ih

/-! ### weights -/
def pcF : Nat → Nat → Nat
  | 0, _ => 0
  | f + 1, x => x % 2 + pcF f (x / 2)
def wt (x : Int) : Int := pcF 16 x.toNat
theorem pcF_zero (f : Nat) : pcF f 0 = 0 := by
  induction f with
  | zero => rfl
  | succ f ih => rw [pcF]; simpa using ih
theorem pcF_more {f : Nat} : ∀ {x : Nat} (q : Nat), x < 2 ^ f → pcF (f + q) x = pcF f x := by
  induction f with
  | zero =>
    intro x q h
    have : x = 0 := by simpa using h
    subst this
    rw [pcF_zero, pcF_zero]
  | succ f ih =>
    intro x q h
    rw [show f + 1 + q = (f + q) + 1 by omega, pcF, pcF, ih q (by rw [Nat.pow_succ] at h; omega)]
theorem pcF_le (f x : Nat) : pcF f x ≤ f := by
  induction f generalizing x with
  | zero => exact Nat.le_refl _
  | succ f ih =>
    have := ih (x / 2)
    rw [pcF]
    omega
theorem pcF_pos {f : Nat} : ∀ {x : Nat}, 0 < x → x < 2 ^ f → 0 < pcF f x := by
  induction f with
  | zero => intro x h0 h; simp at h; omega
  | succ f ih =>
    intro x h0 h
    rw [pcF]
    rw [Nat.pow_succ] at h
    by_cases h1 : x % 2 = 0
    · have := ih (x := x / 2) (by omega) (by omega)
      omega
    · omega
theorem wt_bd {m : Nat} (hm : m ≤ 16) {x : Int} (h0 : 0 ≤ x) (h : x < 2 ^ m) : 0 ≤ wt x ∧ wt x ≤ m := by
  obtain ⟨n, rfl⟩ : ∃ n : Nat, x = n := ⟨x.toNat, by omega⟩
  have hn : n < 2 ^ m := by exact_mod_cast h
  unfold wt
  rw [Int.toNat_natCast, show 16 = m + (16 - m) by omega, pcF_more _ hn]
  have := pcF_le m n
  omega
theorem wt_step (n : Nat) (h : n < 65536) : wt (n : Int) = ((n : Int) % 2) + wt ((n / 2 : Nat) : Int) := by
  unfold wt
  rw [Int.toNat_natCast, Int.toNat_natCast]
  have h1 : pcF 16 n = n % 2 + pcF 15 (n / 2) := rfl
  have h2 : pcF 16 (n / 2) = pcF 15 (n / 2) := pcF_more (f := 15) 1 (by omega)
  rw [h1, h2]
  omega

/-- how many words have a weight, up to a weight -/
def wtRow (m : Nat) (ws : List Int) : List Int := (List.range (m + 1)).map fun i : Nat => ((ws.countP fun x => wt x == (i : Int) : Nat) : Int)
theorem wtRow_len (m : Nat) (ws : List Int) : (wtRow m ws).length = m + 1 := by simp [wtRow]
theorem wtRow_nil (m : Nat) : wtRow m [] = List.replicate (m + 1) 0 := by
  apply List.ext_getElem
  · simp [wtRow]
  · intro i h1 h2
    simp [wtRow]
theorem wtRow_get (m : Nat) (ws : List Int) (i : Nat) (h : i ≤ m) : (wtRow m ws).getD i 0 = ((ws.countP fun x => wt x == (i : Int) : Nat) : Int) := by
  have h1 : i < (wtRow m ws).length := by rw [wtRow_len]; omega
  simp [List.getD, wtRow, show i < m + 1 by omega]
theorem wtRow_snoc (m : Nat) (ws : List Int) (x : Int) (h0 : 0 ≤ wt x) (h1 : wt x ≤ m) : (wtRow m ws).set (wt x).toNat ((wtRow m ws).getD (wt x).toNat 0 + 1) = wtRow m (ws ++ [x]) := by
  apply List.ext_getElem
  · simp [wtRow]
  · intro i h2 h3
    have hi : i ≤ m := by rw [List.length_set, wtRow_len] at h2; omega
    rw [List.getElem_set]
    obtain ⟨q, hq⟩ : ∃ q, (wtRow m ws).getD (wt x).toNat 0 = q := ⟨_, rfl⟩
    have hg := hq.symm.trans (wtRow_get m ws _ (by omega))
    have e3 : (if (wt x).toNat = i then (wtRow m ws).getD (wt x).toNat 0 + 1 else (wtRow m ws)[i]'(by rw [wtRow_len]; omega)) = if (wt x).toNat = i then q + 1 else (wtRow m ws)[i]'(by rw [wtRow_len]; omega) := by rw [hq]
    rw [e3, hg]
    simp only [wtRow, List.getElem_map, List.getElem_range, List.countP_append, List.countP_cons, List.countP_nil]
    by_cases h : (wt x).toNat = i
    · have e : wt x = (i : Int) := by omega
      rw [if_pos h]
      simp [e]
    · have e : ¬ wt x = (i : Int) := by omega
      rw [if_neg h]
      simp [e]
theorem wtRow_perm {m : Nat} {a b : List Int} (h : a.Perm b) : wtRow m a = wtRow m b := by
  unfold wtRow
  congr 1
  funext i
  rw [h.countP_eq]

/-- the least weight of some word, but 0 -/
def distK (ws : List Int) (n : Nat) : Option Nat := ((List.range n).map (· + 1)).find? fun d => decide (0 < ws.getD d 0)
theorem distK_mem {ws : List Int} {n d : Nat} (h : distK ws n = some d) : 1 ≤ d ∧ d ≤ n ∧ 0 < ws.getD d 0 ∧ ∀ j, 1 ≤ j → j < d → ¬ 0 < ws.getD j 0 := by
  unfold distK at h
  obtain ⟨h1, l1, l2, h2, h3⟩ := List.find?_eq_some_iff_append.1 h
  have hm : d ∈ (List.range n).map (· + 1) := by rw [h2]; simp
  obtain ⟨q, hq, rfl⟩ := List.mem_map.1 hm
  have hq := List.mem_range.1 hq
  have hal : l1.length = q := by
    have h4 : ((List.range n).map (· + 1))[l1.length]? = some (q + 1) := by rw [h2]; simp
    have h5 := List.getElem?_eq_some_iff.1 h4
    have := h5.2
    simp at this
    exact this
  refine ⟨by omega, by omega, by simpa using h1, fun j h6 h7 => ?_⟩
  have h8 : j ∈ l1 := by
    have h9 : ((List.range n).map (· + 1))[j - 1]? = some j := by
      rw [List.getElem?_map, List.getElem?_range (by omega)]
      simp
      omega
    rw [h2, List.getElem?_append_left (by omega)] at h9
    exact List.mem_of_getElem? h9
  have := h3 j h8
  simpa using this
theorem distK_eq {ws : List Int} {n d : Nat} (h1 : 1 ≤ d) (h2 : d ≤ n) (h3 : 0 < ws.getD d 0) (h4 : ∀ j, 1 ≤ j → j < d → ¬ 0 < ws.getD j 0) : distK ws n = some d := by
  cases h : distK ws n with
  | none =>
    unfold distK at h
    rw [List.find?_eq_none] at h
    have h5 := h d (List.mem_map.2 ⟨d - 1, List.mem_range.2 (by omega), by omega⟩)
    exact absurd (decide_eq_true h3) h5
  | some e =>
    obtain ⟨g1, g2, g3, g4⟩ := distK_mem h
    rcases Nat.lt_trichotomy e d with h5 | h5 | h5
    · exact absurd g3 (h4 e g1 h5)
    · rw [h5]
    · exact absurd h3 (g4 d h1 h5)

/-! ### a valid code has a word that is not 0 -/
theorem hasD_zero (i : Int) : hasD 0 i = false := by
  unfold hasD
  rw [Int.zero_ediv]
  decide
theorem stepsGo_some (m : Nat) (rows : List Int) (h : 0 < (stepsGo m (rows, 0)).2) : ∃ x ∈ rows, x ≠ 0 := by
  induction m with
  | zero => exact absurd h (by simp [stepsGo])
  | succ m ih =>
    rw [stepsGo] at h
    split at h
    · rename_i hlt
      have h1 := findAt_yes hlt
      refine ⟨rows.getD (findAt rows m 0) 0, ?_, fun e => ?_⟩
      · have hlt' : findAt rows m 0 < rows.length := hlt
        simp [List.getD, hlt']
      · simp only [] at h1
        rw [e, hasD_zero] at h1
        cases h1
    · exact ih h

end Go.Proofs.Ytldnhflgpbcmeaa
