/-
  Plain: rows of a code in steps: what they are made of; valid rows are independent.
  Conditions: at most 16 digits.
-/
import Derived.Test.YtldnhflgpbcmeaaEA
import Derived.Test.YtldnhflgpbcmeaaPV
namespace Go.Proofs.Ytldnhflgpbcmeaa
open Go.RowKit

theorem and_nat (a b : Nat) (ha : a < 65536) (hb : b < 65536) : bits .and .i64 (a : Int) (b : Int) = ((a &&& b : Nat) : Int) := by
  have e1 : BitVec.ofInt 64 (a : Int) = BitVec.ofNat 64 a := BitVec.ofInt_natCast 64 a
  have e2 : BitVec.ofInt 64 (b : Int) = BitVec.ofNat 64 b := BitVec.ofInt_natCast 64 b
  have e3 : bits .and .i64 (a : Int) (b : Int) = IntKind.i64.wrap ((BitVec.ofInt 64 (a : Int) &&& BitVec.ofInt 64 (b : Int)).toNat : Int) := rfl
  have h1 : a &&& b ≤ a := Nat.and_le_left
  have h2 : (BitVec.ofNat 64 a &&& BitVec.ofNat 64 b).toNat = a &&& b := by
    rw [BitVec.toNat_and, BitVec.toNat_ofNat, BitVec.toNat_ofNat, Nat.mod_eq_of_lt (by omega), Nat.mod_eq_of_lt (by omega)]
  rw [e3, e1, e2, h2, IntWalk.i64_in _ (by omega)]
theorem or_nat (a b : Nat) (ha : a < 65536) (hb : b < 65536) : bits .or .i64 (a : Int) (b : Int) = ((a ||| b : Nat) : Int) := by
  have e1 : BitVec.ofInt 64 (a : Int) = BitVec.ofNat 64 a := BitVec.ofInt_natCast 64 a
  have e2 : BitVec.ofInt 64 (b : Int) = BitVec.ofNat 64 b := BitVec.ofInt_natCast 64 b
  have e3 : bits .or .i64 (a : Int) (b : Int) = IntKind.i64.wrap ((BitVec.ofInt 64 (a : Int) ||| BitVec.ofInt 64 (b : Int)).toNat : Int) := rfl
  have h1 : a ||| b < 2 ^ 16 := Nat.or_lt_two_pow (by omega) (by omega)
  have h2 : (BitVec.ofNat 64 a ||| BitVec.ofNat 64 b).toNat = a ||| b := by
    rw [BitVec.toNat_or, BitVec.toNat_ofNat, BitVec.toNat_ofNat, Nat.mod_eq_of_lt (by omega), Nat.mod_eq_of_lt (by omega)]
  rw [e3, e1, e2, h2, IntWalk.i64_in _ (by omega)]
theorem hasD_bit {a : Nat} (i : Nat) (ha : a < 65536) : hasD (a : Int) (i : Int) = a.testBit i := by
  unfold hasD
  have e : (a : Int) / 2 ^ (i : Int).toNat = ((a / 2 ^ i : Nat) : Int) := by
    rw [Int.toNat_natCast]
    norm_cast
  have h1 : a / 2 ^ i ≤ a := Nat.div_le_self _ _
  have h2 := and_nat (a / 2 ^ i) 1 (by omega) (by decide)
  rw [e, show (1 : Int) = ((1 : Nat) : Int) from rfl, h2, Nat.and_one_is_mod, Nat.testBit_eq_decide_div_mod_eq]
  have h3 : a / 2 ^ i % 2 < 2 := Nat.mod_lt _ (by decide)
  by_cases h : a / 2 ^ i % 2 = 1
  · rw [h]; rfl
  · have : a / 2 ^ i % 2 = 0 := by omega
    rw [this]; rfl
def RM (M : Nat) (rows : List Int) : Prop := ∀ i, 0 ≤ rows.getD i 0 ∧ rows.getD i 0 < 2 ^ M
def rowF (rows : List Int) (i : Nat) : Nat := (rows.getD i 0).toNat
theorem RM.of {M : Nat} {rows : List Int} (h : ∀ x ∈ rows, 0 ≤ x ∧ x < 2 ^ M) : RM M rows := fun i => getD_row h i
theorem RM.mem {M : Nat} {rows : List Int} (h : RM M rows) {x : Int} (hx : x ∈ rows) : 0 ≤ x ∧ x < 2 ^ M := by
  obtain ⟨i, hi, rfl⟩ := List.mem_iff_getElem.1 hx
  have := h i
  simpa [List.getD, hi] using this
theorem rowF_cast {M : Nat} {rows : List Int} (h : RM M rows) (i : Nat) : ((rowF rows i : Nat) : Int) = rows.getD i 0 := by
  have := (h i).1
  unfold rowF
  omega
theorem rowF_lt {M : Nat} {rows : List Int} (h : RM M rows) (i : Nat) : rowF rows i < 2 ^ M := by
  have h1 := (h i).2
  have h2 := rowF_cast h i
  have h3 : ((rowF rows i : Nat) : Int) < ((2 ^ M : Nat) : Int) := by rw [h2]; push_cast; exact h1
  omega
theorem pow16N {M : Nat} (h : M ≤ 16) : 2 ^ M ≤ 65536 := Nat.pow_le_pow_right (by decide) h
theorem getD_set {rows : List Int} {j : Nat} (v : Int) (hj : j < rows.length) (i : Nat) : (rows.set j v).getD i 0 = if i = j then v else rows.getD i 0 := by
  by_cases h : i = j
  · subst h; simp [List.getD, hj]
  · have : ¬ j = i := fun e => h e.symm
    simp [List.getD, h, this]
theorem hasD_row {M : Nat} (hM : M ≤ 16) {rows : List Int} (h : RM M rows) (i b : Nat) : hasD (rows.getD i 0) (b : Int) = (rowF rows i).testBit b := by
  have h1 := rowF_lt h i
  have h2 := pow16N hM
  rw [← rowF_cast h i]
  exact hasD_bit b (by omega)
theorem xor_row {M : Nat} (hM : M ≤ 16) {rows : List Int} (h : RM M rows) (i j : Nat) : (xorI (rows.getD i 0) (rows.getD j 0)).toNat = rowF rows i ^^^ rowF rows j := by
  have h1 := rowF_lt h i
  have h3 := rowF_lt h j
  have h2 := pow16N hM
  rw [← rowF_cast h i, ← rowF_cast h j, xorI_nat _ _ (by omega) (by omega)]
  rfl
theorem swap_getD {rows : List Int} {k a : Nat} (hk : k < rows.length) (ha : a < rows.length) (i : Nat) : (swapL rows k a).getD i 0 = rows.getD (exch a k i) 0 := by
  unfold swapL exch
  rw [getD_set _ (by rw [List.length_set]; exact ha)]
  split
  · rfl
  · rw [getD_set _ hk]
    split <;> rfl
theorem RM.swap {M : Nat} {rows : List Int} (h : RM M rows) {k a : Nat} (hk : k < rows.length) (ha : a < rows.length) : RM M (swapL rows k a) := fun i => by
  rw [swap_getD hk ha]; exact h _
theorem elim_is {M : Nat} (hM : M ≤ 16) {rows : List Int} (h : RM M rows) (m k : Nat) : ∀ j, j ≤ rows.length → RM M (elimK rows (m : Int) k j) ∧ ∀ q, rowF (elimK rows (m : Int) k j) q = clearR (rowF rows) m k j q
  | 0, _ => ⟨h, fun _ => rfl⟩
  | j + 1, hj => by
    obtain ⟨h1, h2⟩ := elim_is hM h m k j (by omega)
    have hl : j < (elimK rows (m : Int) k j).length := by rw [elimK_len]; omega
    rw [elimK, clearR]
    by_cases hc : j ≠ k ∧ (clearR (rowF rows) m k j j).testBit m = true
    · have hc' : j ≠ k ∧ hasD ((elimK rows (m : Int) k j).getD j 0) (m : Int) = true := ⟨hc.1, by rw [hasD_row hM h1, h2]; exact hc.2⟩
      rw [if_pos hc, if_pos hc']
      have hb := xorI_bd hM (h1 j).1 (h1 j).2 (h1 k).1 (h1 k).2
      refine ⟨fun i => ?_, fun q => ?_⟩
      · rw [getD_set _ hl]
        split
        · exact hb
        · exact h1 i
      · unfold addR
        rw [rowF, getD_set _ hl]
        split
        · rw [xor_row hM h1, h2, h2]
        · exact h2 q
    · have hc' : ¬ (j ≠ k ∧ hasD ((elimK rows (m : Int) k j).getD j 0) (m : Int) = true) := fun h3 => hc ⟨h3.1, by rw [← h2, ← hasD_row hM h1]; exact h3.2⟩
      rw [if_neg hc, if_neg hc']
      exact ⟨h1, h2⟩
theorem steps_ech {M : Nat} (hM : M ≤ 16) : ∀ (m : Nat) (rows : List Int) (k : Nat) (T : Nat → Nat), RM M rows → Ech (rowF rows) rows.length k m T →
    RM M (stepsGo m (rows, k)).1 ∧ (∃ T', Ech (rowF (stepsGo m (rows, k)).1) rows.length (stepsGo m (rows, k)).2 0 T') ∧ Sub (rowF (stepsGo m (rows, k)).1) (rowF rows) rows.length ∧ Sub (rowF rows) (rowF (stepsGo m (rows, k)).1) rows.length
  | 0, rows, k, T, h, he => ⟨h, ⟨T, he⟩, Sub.refl _ _, Sub.refl _ _⟩
  | m + 1, rows, k, T, h, he => by
    have hb := findAt_bd rows (m : Int) k he.kn
    rw [stepsGo]
    by_cases hlt : findAt rows (m : Int) k < rows.length
    · rw [if_pos hlt]
      have hk : k < rows.length := by omega
      obtain ⟨a, ha⟩ : ∃ a, findAt rows (m : Int) k = a := ⟨_, rfl⟩
      have hp := findAt_yes hlt
      simp only [ha] at hlt hp hb ⊢
      rw [hasD_row hM h] at hp
      have hs := h.swap hk hlt
      have e1 : ∀ i, rowF (swapL rows k a) i = rowF rows (exch a k i) := fun i => by unfold rowF; rw [swap_getD hk hlt]
      have he1 := (he.swap (a := a) hb.1 hlt).congr (s := rowF (swapL rows k a)) (fun i _ => e1 i)
      have hp1 : (rowF (swapL rows k a) k).testBit m = true := by
        rw [e1]
        have : exch a k k = a := by unfold exch; split <;> simp_all
        rw [this]; exact hp
      obtain ⟨h2, e2⟩ := elim_is hM hs m k rows.length (by rw [swapL_len]; exact Nat.le_refl _)
      have he2 := (he1.pivot hk hp1).congr (s := rowF (elimK (swapL rows k a) (m : Int) k rows.length)) (fun i _ => e2 i)
      have hl : (elimK (swapL rows k a) (m : Int) k rows.length).length = rows.length := by rw [elimK_len, swapL_len]
      have ih := steps_ech hM m (elimK (swapL rows k a) (m : Int) k rows.length) (k + 1) _ h2 (by rw [hl]; exact he2)
      rw [hl] at ih
      obtain ⟨g1, g2, g3, g4⟩ := ih
      obtain ⟨c1, c2⟩ := clear_sub (rowF (swapL rows k a)) (m := m) hk rows.length (Nat.le_refl _)
      have c1 := c1.congr (r' := rowF (elimK (swapL rows k a) (m : Int) k rows.length)) (fun i _ => e2 i) (fun _ _ => rfl)
      have c2 := c2.congr (s' := rowF (elimK (swapL rows k a) (m : Int) k rows.length)) (fun _ _ => rfl) (fun i _ => e2 i)
      have d1 := (exch_sub (r := rowF rows) hlt hk).congr (r' := rowF (swapL rows k a)) (fun i _ => e1 i) (fun _ _ => rfl)
      have d2 := (exch_sup (r := rowF rows) hlt hk).congr (s' := rowF (swapL rows k a)) (fun _ _ => rfl) (fun i _ => e1 i)
      exact ⟨g1, g2, (g3.trans c1).trans d1, (d2.trans c2).trans g4⟩
    · rw [if_neg hlt]
      refine steps_ech hM m rows k T h (he.skip fun s h1 h2 => ?_)
      have := findAt_no (rows := rows) (i := (m : Int)) h1 (by omega) h2
      rw [hasD_row hM h] at this
      exact this

theorem par_RM {M : Nat} {rows : List Int} (h : parRows (M : Int) rows = true) : RM M rows := RM.of (par_facts h).2.2.2.2
theorem valid_parts {M : Nat} {rows : List Int} (h : validParB (M : Int) rows = true) : parRows (M : Int) rows = true ∧ (stepsOf (M : Int) rows).2 = rows.length := by
  unfold validParB at h
  rw [Bool.and_eq_true] at h
  exact ⟨h.1, by simpa using h.2⟩
def echL (M : Nat) (rows : List Int) : List Int := (stepsOf (M : Int) rows).1
theorem echL_len (M : Nat) (rows : List Int) : (echL M rows).length = rows.length := stepsGo_len _ _
theorem valid_ech {M : Nat} {rows : List Int} (h : validParB (M : Int) rows = true) :
    RM M (echL M rows) ∧ (∃ T, Ech (rowF (echL M rows)) rows.length rows.length 0 T) ∧ Sub (rowF (echL M rows)) (rowF rows) rows.length ∧ Sub (rowF rows) (rowF (echL M rows)) rows.length ∧ Ind (rowF rows) rows.length := by
  obtain ⟨hp, hs⟩ := valid_parts h
  have hr := par_RM hp
  have hM : M ≤ 16 := by have := (par_facts hp).2.1; omega
  obtain ⟨h1, ⟨T, h2⟩, h3, h4⟩ := steps_ech hM M rows 0 (fun _ => 0) hr (Ech.start (fun i _ => rowF_lt hr i) _)
  have e : stepsGo M (rows, 0) = stepsOf (M : Int) rows := rfl
  rw [e] at h1 h2 h3 h4
  rw [hs] at h2
  exact ⟨h1, ⟨T, h2⟩, h3, h4, h4.ind h2.ind⟩
theorem valid_of_ind {M : Nat} {rows : List Int} (hp : parRows (M : Int) rows = true) (hi : Ind (rowF rows) rows.length) : validParB (M : Int) rows = true := by
  have hr := par_RM hp
  have hM : M ≤ 16 := by have := (par_facts hp).2.1; omega
  obtain ⟨h1, ⟨T, h2⟩, h3, h4⟩ := steps_ech hM M rows 0 (fun _ => 0) hr (Ech.start (fun i _ => rowF_lt hr i) _)
  have e : stepsGo M (rows, 0) = stepsOf (M : Int) rows := rfl
  rw [e] at h1 h2 h3 h4
  unfold validParB
  rw [hp, h2.full (h3.ind hi)]
  simp
/-- the rows in steps are valid, too -/
theorem ech_valid {M : Nat} {rows : List Int} (h : validParB (M : Int) rows = true) : validParB (M : Int) (echL M rows) = true := by
  obtain ⟨h1, ⟨T, h2⟩, _, _, _⟩ := valid_ech h
  have hp := (valid_parts h).1
  obtain ⟨m1, m2, n1, n8, _⟩ := par_facts hp
  have hl := echL_len M rows
  refine valid_of_ind ?_ (by rw [hl]; exact h2.ind)
  unfold parRows at hp ⊢
  simp only [Bool.and_eq_true, decide_eq_true_eq, List.all_eq_true, hl] at hp ⊢
  refine ⟨⟨⟨hp.1.1.1, n1⟩, n8⟩, fun x hx => ?_⟩
  have := h1.mem hx
  rw [inB_true, Int.toNat_natCast]
  omega

/-! words of rows -/
theorem enc_lin {M : Nat} (hM : M ≤ 16) {rows : List Int} (h : RM M rows) (msg : Int) : ∀ k, (encK rows msg k).toNat = lin (rowF rows) (fun i => hasD msg i) k ∧ 0 ≤ encK rows msg k ∧ encK rows msg k < 2 ^ M
  | 0 => ⟨rfl, Int.le_refl _, Int.pow_pos (by decide)⟩
  | k + 1 => by
    obtain ⟨h1, h2, h3⟩ := enc_lin hM h msg k
    rw [encK, lin]
    split
    · have hb := xorI_bd hM h2 h3 (h k).1 (h k).2
      refine ⟨?_, hb⟩
      have hp := pow16 hM
      have g1 := h k
      have e1 : encK rows msg k = (((encK rows msg k).toNat : Nat) : Int) := by omega
      rw [e1, ← rowF_cast h k, xorI_nat _ _ (by omega) (by unfold rowF; omega), ← h1]
      rfl
    · exact ⟨h1, h2, h3⟩
theorem enc_is {M : Nat} (hM : M ≤ 16) {rows : List Int} (h : RM M rows) {k : Nat} (hk : k < 65536) : encL rows (k : Int) = ((lin (rowF rows) k.testBit rows.length : Nat) : Int) := by
  have h1 := enc_lin hM h (k : Int) rows.length
  have e : lin (rowF rows) (fun i => hasD (k : Int) (i : Int)) rows.length = lin (rowF rows) k.testBit rows.length := lin_congr (fun _ _ => rfl) (fun i _ => hasD_bit i hk)
  rw [e] at h1
  unfold encL
  omega
/-- the number with digits -/
def numOf (c : Nat → Bool) (n : Nat) : Nat := lin (fun i => 2 ^ i) c n
theorem numOf_lt (c : Nat → Bool) (n : Nat) : numOf c n < 2 ^ n := lin_lt fun _ hi => Nat.pow_lt_pow_right (by decide) hi
theorem numOf_bit (c : Nat → Bool) {n i : Nat} (hi : i < n) : (numOf c n).testBit i = c i := by
  unfold numOf
  rw [lin_bit, ← par_one hi (c i)]
  apply par_congr
  intro b _
  rw [Nat.testBit_two_pow]
  by_cases e : b = i
  · subst e; simp
  · simp [e]
theorem sp_enc {M : Nat} (hM : M ≤ 16) {rows : List Int} (h : RM M rows) (h8 : rows.length ≤ 8) (x : Nat) : Sp (rowF rows) rows.length x ↔ ∃ k : Nat, k < 2 ^ rows.length ∧ encL rows (k : Int) = (x : Int) := by
  have hp : 2 ^ rows.length ≤ 2 ^ 8 := Nat.pow_le_pow_right (by decide) h8
  constructor
  · rintro ⟨c, rfl⟩
    have hn := numOf_lt c rows.length
    refine ⟨numOf c rows.length, hn, ?_⟩
    rw [enc_is hM h (by omega), lin_congr (fun _ _ => rfl) (fun i hi => numOf_bit c hi)]
  · rintro ⟨k, hk, he⟩
    rw [enc_is hM h (by omega)] at he
    exact ⟨k.testBit, by omega⟩
theorem enc_inj {M : Nat} {rows : List Int} (h : validParB (M : Int) rows = true) {a b : Nat} (ha : a < 2 ^ rows.length) (hb : b < 2 ^ rows.length) (e : encL rows (a : Int) = encL rows (b : Int)) : a = b := by
  obtain ⟨_, _, _, _, hi⟩ := valid_ech h
  have hp := (valid_parts h).1
  obtain ⟨m1, m2, n1, n8, _⟩ := par_facts hp
  have hr := par_RM hp
  have h8 : 2 ^ rows.length ≤ 2 ^ 8 := Nat.pow_le_pow_right (by decide) n8
  rw [enc_is (by omega) hr (by omega), enc_is (by omega) hr (by omega)] at e
  have e2 : lin (rowF rows) a.testBit rows.length = lin (rowF rows) b.testBit rows.length := by omega
  have hz := lin_xor (rowF rows) a.testBit b.testBit rows.length
  rw [e2, Nat.xor_self] at hz
  have h3 := hi _ hz
  apply eq_of_bits
  intro i
  by_cases hlt : i < rows.length
  · have := h3 i hlt
    revert this
    cases a.testBit i <;> cases b.testBit i <;> simp
  · rw [Nat.testBit_lt_two_pow (Nat.lt_of_lt_of_le ha (Nat.pow_le_pow_right (by decide) (by omega))), Nat.testBit_lt_two_pow (Nat.lt_of_lt_of_le hb (Nat.pow_le_pow_right (by decide) (by omega)))]

end Go.Proofs.Ytldnhflgpbcmeaa
