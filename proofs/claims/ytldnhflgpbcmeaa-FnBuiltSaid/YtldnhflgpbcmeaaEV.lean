/-
  Plain: codes that are extended and shortened, keys of bits.
  Conditions: valid codes of fewer than 16 digits.
-/
import Derived.Test.YtldnhflgpbcmeaaER
import Derived.Test.YtldnhflgpbcmeaaRB
namespace Go.Proofs.Ytldnhflgpbcmeaa
open Go.RowKit

/-! tops fall -/
theorem steps_dec {M : Nat} (hM : M ≤ 16) : ∀ (m : Nat) (rows : List Int) (k : Nat) (T : Nat → Nat), RM M rows → Ech (rowF rows) rows.length k m T → (∀ a b, a < b → b < k → T b < T a) →
    ∃ T', Ech (rowF (stepsGo m (rows, k)).1) rows.length (stepsGo m (rows, k)).2 0 T' ∧ ∀ a b, a < b → b < (stepsGo m (rows, k)).2 → T' b < T' a
  | 0, rows, k, T, _, he, hd => ⟨T, he, hd⟩
  | m + 1, rows, k, T, h, he, hd => by
    have hb := findAt_bd rows (m : Int) k he.kn
    rw [stepsGo]
    by_cases hlt : findAt rows (m : Int) k < rows.length
    · rw [if_pos hlt]
      have hk : k < rows.length := by omega
      obtain ⟨a, ha⟩ : ∃ a, findAt rows (m : Int) k = a := ⟨_, rfl⟩
      have hp := findAt_yes hlt
      simp only [ha] at hlt hp hb ⊢
      rw [hasD_row hM h] at hp
      have hs := h.swap hk hlt
      have e1 : ∀ i, rowF (swapL rows k a) i = rowF rows (exch a k i) := fun i => by unfold rowF; rw [swap_getD hk hlt]
      have he1 := (he.swap (a := a) hb.1 hlt).congr (s := rowF (swapL rows k a)) (fun i _ => e1 i)
      have hp1 : (rowF (swapL rows k a) k).testBit m = true := by
        rw [e1]
        have : exch a k k = a := by unfold exch; split <;> simp_all
        rw [this]; exact hp
      obtain ⟨h2, e2⟩ := elim_is hM hs m k rows.length (by rw [swapL_len]; exact Nat.le_refl _)
      have he2 := (he1.pivot hk hp1).congr (s := rowF (elimK (swapL rows k a) (m : Int) k rows.length)) (fun i _ => e2 i)
      have hl : (elimK (swapL rows k a) (m : Int) k rows.length).length = rows.length := by rw [elimK_len, swapL_len]
      have ih := steps_dec hM m (elimK (swapL rows k a) (m : Int) k rows.length) (k + 1) _ h2 (by rw [hl]; exact he2) (fun x y hxy hy => by
        have h1 : ¬ x = k := by omega
        rw [if_neg h1]
        by_cases e : y = k
        · rw [if_pos e]
          have := he.top x (by omega)
          omega
        · rw [if_neg e]
          exact hd x y hxy (by omega))
      rw [hl] at ih
      exact ih
    · rw [if_neg hlt]
      refine steps_dec hM m rows k T h (he.skip fun s h1 h2 => ?_) hd
      have := findAt_no (rows := rows) (i := (m : Int)) h1 (by omega) h2
      rw [hasD_row hM h] at this
      exact this
theorem ech_dec {M : Nat} {rows : List Int} (h : validParB (M : Int) rows = true) : ∃ T, Ech (rowF (echL M rows)) rows.length rows.length 0 T ∧ ∀ a b, a < b → b < rows.length → T b < T a := by
  obtain ⟨hp, hs⟩ := valid_parts h
  have hr := par_RM hp
  have hM : M ≤ 16 := by have := (par_facts hp).2.1; omega
  obtain ⟨T, h1, h2⟩ := steps_dec hM M rows 0 (fun _ => 0) hr (Ech.start (fun i _ => rowF_lt hr i) _) (fun a b _ hb => absurd hb (Nat.not_lt_zero _))
  have e : stepsGo M (rows, 0) = stepsOf (M : Int) rows := rfl
  rw [e] at h1 h2
  rw [hs] at h1 h2
  exact ⟨T, h1, h2⟩

/-! even words -/
def oddN (x : Nat) : Bool := par x.testBit 16
theorem odd_wt {x : Nat} : wt (x : Int) % 2 = if oddN x then 1 else 0 := by
  rw [wt_wtN]
  unfold wtN oddN
  rw [cnt_par]
  by_cases h : cnt x.testBit 16 % 2 = 1
  · rw [decide_eq_true h, if_pos rfl]; omega
  · rw [decide_eq_false h]; simp; omega
theorem oddN_xor (x y : Nat) : oddN (x ^^^ y) = Bool.xor (oddN x) (oddN y) := by
  unfold oddN
  rw [← par_xor]
  exact par_congr fun i _ => Nat.testBit_xor _ _ _
theorem oddN_pow {M : Nat} (h : M < 16) : oddN (2 ^ M) = true := by
  unfold oddN
  rw [← par_one h true]
  apply par_congr
  intro i _
  rw [Nat.testBit_two_pow, Bool.and_true]
  by_cases e : i = M
  · subst e; simp
  · simp [e, show ¬ M = i from fun e2 => e e2.symm]
theorem oddN_lin (r : Nat → Nat) (c : Nat → Bool) : ∀ n, (∀ i, i < n → oddN (r i) = false) → oddN (lin r c n) = false
  | 0, _ => by unfold oddN; exact par_false fun i _ => Nat.zero_testBit i
  | n + 1, h => by
    have ih := oddN_lin r c n fun i hi => h i (by omega)
    rw [lin]
    split
    · rw [oddN_xor, ih, h n (by omega)]; rfl
    · exact ih
/-! a digit more -/
def extN (M x : Nat) : Nat := if oddN x then x ^^^ 2 ^ M else x
def extV (M : Nat) (x : Int) : Int := if wt x % 2 == 1 then bits .or .i64 x (2 ^ M) else x
def extL (M : Nat) (xs : List Int) : List Int := xs.map (extV M)
theorem ext_is {M x : Nat} (hM : M < 16) (hx : x < 2 ^ M) : extV M (x : Int) = (extN M x : Int) := by
  have hp := pow16N (Nat.le_of_lt hM)
  have hp2 : 2 ^ M < 65536 := Nat.pow_lt_pow_right (n := 16) (by decide) hM
  unfold extV extN
  rw [odd_wt]
  cases h : oddN x
  · simp
  · have e := or_nat x (2 ^ M) (by omega) hp2
    rw [or_pow (Nat.testBit_lt_two_pow hx)] at e
    push_cast at e
    simp only [if_true, beq_self_eq_true]
    exact e
theorem extN_lt {M x : Nat} (hx : x < 2 ^ M) : extN M x < 2 ^ (M + 1) := by
  have h1 : 2 ^ M < 2 ^ (M + 1) := Nat.pow_lt_pow_right (by decide) (by omega)
  unfold extN
  split
  · exact Nat.xor_lt_two_pow (by omega) h1
  · omega
theorem extN_bit {M x b : Nat} (hb : b < M) : (extN M x).testBit b = x.testBit b := by
  unfold extN
  split
  · rw [Nat.testBit_xor, Nat.testBit_two_pow, decide_eq_false (by omega)]; simp
  · rfl
theorem extN_even {M x : Nat} (hM : M < 16) : oddN (extN M x) = false := by
  unfold extN
  cases h : oddN x
  · simp [h]
  · simp [oddN_xor, h, oddN_pow hM]
theorem extL_len (M : Nat) (xs : List Int) : (extL M xs).length = xs.length := List.length_map _
theorem ext_row {M : Nat} {xs : List Int} (hv : validParB (M : Int) xs = true) (hM : M < 16) {i : Nat} (hi : i < xs.length) : rowF (extL M xs) i = extN M (rowF xs i) := by
  have h := (du_of hv).rm
  have e : (extL M xs).getD i 0 = (extN M (rowF xs i) : Int) := by
    rw [← ext_is hM (rowF_lt h i), rowF_cast h i]
    unfold extL
    simp [List.getD, hi]
  show ((extL M xs).getD i 0).toNat = _
  rw [e]
  exact Int.toNat_natCast _
theorem ext_RM {M : Nat} {xs : List Int} (hv : validParB (M : Int) xs = true) (hM : M < 16) : RM (M + 1) (extL M xs) := fun i => by
  have h := (du_of hv).rm
  by_cases hi : i < xs.length
  · have h1 := extN_lt (rowF_lt h i)
    have e : (extL M xs).getD i 0 = (extN M (rowF xs i) : Int) := by
      rw [← ext_is hM (rowF_lt h i), rowF_cast h i]
      unfold extL
      simp [List.getD, hi]
    rw [e]
    have : ((extN M (rowF xs i) : Nat) : Int) < ((2 ^ (M + 1) : Nat) : Int) := by exact_mod_cast h1
    push_cast at this
    omega
  · have : (extL M xs).getD i 0 = 0 := by unfold extL; simp [List.getD, hi]
    rw [this]
    exact ⟨Int.le_refl _, Int.pow_pos (by decide)⟩
theorem ext_low {M : Nat} {xs : List Int} (hv : validParB (M : Int) xs = true) (hM : M < 16) (c : Nat → Bool) {b : Nat} (hb : b < M) : (lin (rowF (extL M xs)) c xs.length).testBit b = (lin (rowF xs) c xs.length).testBit b := by
  rw [lin_bit, lin_bit]
  exact par_congr fun i hi => by rw [ext_row hv hM hi, extN_bit hb]
theorem ext_back {M : Nat} {xs : List Int} (hv : validParB (M : Int) xs = true) (hM : M < 16) (c : Nat → Bool) (h : (lin (rowF (extL M xs)) c xs.length).testBit M = false) : lin (rowF (extL M xs)) c xs.length = lin (rowF xs) c xs.length := by
  have h1 : lin (rowF (extL M xs)) c xs.length < 2 ^ (M + 1) := lin_lt fun i _ => rowF_lt (ext_RM hv hM) i
  have h2 : lin (rowF xs) c xs.length < 2 ^ M := lin_lt fun i _ => rowF_lt (du_of hv).rm i
  apply eq_of_bits
  intro b
  rcases Nat.lt_trichotomy b M with hb | hb | hb
  · exact ext_low hv hM c hb
  · rw [hb, h, bits_hi h2 (Nat.le_refl _)]
  · rw [bits_hi h1 (by omega), bits_hi h2 (by omega)]
theorem ext_ind {M : Nat} {xs : List Int} (hv : validParB (M : Int) xs = true) (hM : M < 16) : Ind (rowF (extL M xs)) xs.length := fun c hc => by
  have e := ext_back hv hM c (by rw [hc, Nat.zero_testBit])
  rw [hc] at e
  exact (du_of hv).ind c e.symm
theorem ext_valid {M : Nat} {xs : List Int} (hv : validParB (M : Int) xs = true) (hM : M < 16) : validParB ((M + 1 : Nat) : Int) (extL M xs) = true := by
  have h := du_of hv
  refine valid_of_ind ?_ (by rw [extL_len]; exact ext_ind hv hM)
  unfold parRows
  simp only [Bool.and_eq_true, decide_eq_true_eq, List.all_eq_true, inB_true, extL_len]
  refine ⟨⟨⟨by omega, h.n1⟩, h.n8⟩, fun x hx => ?_⟩
  have := (ext_RM hv hM).mem hx
  rw [Int.toNat_natCast]
  omega
theorem ext_even {M : Nat} {xs : List Int} (hv : validParB (M : Int) xs = true) (hM : M < 16) {x : Nat} (h : Sp (rowF (extL M xs)) xs.length x) : oddN x = false := by
  obtain ⟨c, rfl⟩ := h
  exact oddN_lin _ _ _ fun i hi => by rw [ext_row hv hM hi]; exact extN_even hM
theorem ext_sp {M : Nat} {xs : List Int} (hv : validParB (M : Int) xs = true) (hM : M < 16) {x : Nat} (hx : x < 2 ^ M) (h : Sp (rowF (extL M xs)) xs.length x) : Sp (rowF xs) xs.length x := by
  obtain ⟨c, rfl⟩ := h
  exact ⟨c, (ext_back hv hM c (bits_hi hx (Nat.le_refl _))).symm⟩
theorem ext_weights {M : Nat} {xs : List Int} (hv : validParB (M : Int) xs = true) (hM : M < 16) {i : Nat} (hi : i ≤ M + 1) (ho : i % 2 = 1) : (wtRow (M + 1) (codeL (extL M xs))).getD i 0 = 0 := by
  have hve := ext_valid hv hM
  rw [wtRow_get (M + 1) _ i hi]
  have : ((codeL (extL M xs)).countP fun x => wt x == (i : Int)) = 0 := by
    rw [List.countP_eq_zero]
    intro x hx
    have hb := codeL_bd (du_of hve).m (fun x hx => (du_of hve).rm.mem hx) hx
    obtain ⟨y, rfl⟩ : ∃ y : Nat, x = (y : Int) := ⟨x.toNat, by omega⟩
    have hs := (v_sp hve y).2 hx
    rw [extL_len] at hs
    have he := odd_wt (x := y)
    rw [ext_even hv hM hs] at he
    simp at he ⊢
    omega
  rw [this]
  rfl
/-! a digit less -/
theorem short_bit {M : Nat} {xs : List Int} (hv : validParB (M : Int) xs = true) (hM : M < 16) (T : Nat → Nat) (hE : Ech (rowF (echL (M + 1) (extL M xs))) xs.length xs.length 0 T) (hd : ∀ a b, a < b → b < xs.length → T b < T a) {i : Nat} (hi : i < xs.length) (h0 : 0 < i ∨ (rowF (echL (M + 1) (extL M xs)) 0).testBit M = false) : (rowF (echL (M + 1) (extL M xs)) i).testBit M = false := by
  cases hb : (rowF (echL (M + 1) (extL M xs)) i).testBit M
  · rfl
  · exfalso
    have hem := (du_of (ext_valid hv hM)).em
    have hlt : ∀ q, q < xs.length → T q < M + 1 := fun q hq => hE.lt (fun i _ => rowF_lt hem i) hq
    have hTi : T i = M := by
      have h1 := hlt i hi
      rcases Nat.lt_or_ge (T i) M with h2 | h2
      · rw [hE.high i hi M h2] at hb; cases hb
      · omega
    rcases h0 with h0 | h0
    · have h1 := hd 0 i h0 hi
      have h2 := hlt 0 (by omega)
      omega
    · by_cases e : i = 0
      · subst e; rw [h0] at hb; cases hb
      · have h1 := hd 0 i (by omega) hi
        have h2 := hlt 0 (by omega)
        omega
def shortL (M : Nat) (xs : List Int) : List Int := if (rowF (echL (M + 1) (extL M xs)) 0).testBit M then (echL (M + 1) (extL M xs)).drop 1 else echL (M + 1) (extL M xs)
theorem short_is {M : Nat} {xs : List Int} (hv : validParB (M : Int) xs = true) (hM : M < 16) {x : Int} (hx : x ∈ shortL M xs) : ∃ y : Nat, x = (y : Int) ∧ y < 2 ^ M ∧ Sp (rowF xs) xs.length y ∧ oddN y = false := by
  have hve := ext_valid hv hM
  obtain ⟨T, hE, hd⟩ := ech_dec hve
  rw [extL_len] at hE hd
  have hem := (du_of hve).em
  have hel : (echL (M + 1) (extL M xs)).length = xs.length := by rw [echL_len, extL_len]
  have hs1 := (du_of hve).s1
  rw [extL_len] at hs1
  have key : ∃ i, i < xs.length ∧ x = (echL (M + 1) (extL M xs)).getD i 0 ∧ (0 < i ∨ (rowF (echL (M + 1) (extL M xs)) 0).testBit M = false) := by
    unfold shortL at hx
    split at hx
    · obtain ⟨j, hj, rfl⟩ := List.mem_iff_getElem.1 hx
      rw [List.length_drop, hel] at hj
      refine ⟨1 + j, by omega, ?_, .inl (by omega)⟩
      rw [List.getElem_drop]
      simp [List.getD, show 1 + j < (echL (M + 1) (extL M xs)).length by omega]
    · rename_i hn
      obtain ⟨j, hj, rfl⟩ := List.mem_iff_getElem.1 hx
      refine ⟨j, by omega, by simp [List.getD, hj], .inr (by simpa using hn)⟩
  obtain ⟨i, hi, rfl, h0⟩ := key
  have hb := short_bit hv hM T hE hd hi h0
  have hlt := rowF_lt hem i
  have hlt2 : rowF (echL (M + 1) (extL M xs)) i < 2 ^ M := by
    rcases Nat.lt_or_ge (rowF (echL (M + 1) (extL M xs)) i) (2 ^ M) with h1 | h1
    · exact h1
    · exfalso
      have hx2 : rowF (echL (M + 1) (extL M xs)) i / 2 ^ M = 1 := by
        rw [Nat.pow_succ] at hlt
        have h3 : rowF (echL (M + 1) (extL M xs)) i / 2 ^ M < 2 := (Nat.div_lt_iff_lt_mul (Nat.pow_pos (by decide))).2 (by omega)
        have h4 : 1 ≤ rowF (echL (M + 1) (extL M xs)) i / 2 ^ M := (Nat.le_div_iff_mul_le (Nat.pow_pos (by decide))).2 (by omega)
        omega
      rw [Nat.testBit_eq_decide_div_mod_eq, hx2] at hb
      simp at hb
  have hsp : Sp (rowF (extL M xs)) xs.length (rowF (echL (M + 1) (extL M xs)) i) := hs1.sp ⟨fun q => decide (q = i), lin_one _ hi⟩
  exact ⟨_, (rowF_cast hem i).symm, hlt2, ext_sp hv hM hlt2 hsp, ext_even hv hM hsp⟩
/-! keys -/
def seedN (s : Nat) : Nat → Nat | 0 => s | k + 1 => (1664525 * seedN s k + 1013904223) % 4294967296
theorem seedN_lt {s : Nat} (h : s < 4294967296) : ∀ k, seedN s k < 4294967296
  | 0 => h
  | _ + 1 => Nat.mod_lt _ (by decide)
def keyN (x s : Nat) (k : Nat) : Nat := ors (fun i => dot x (seedN s (i + 1) / 65536) 16) (fun i => i) 0 k
theorem keyN_succ (x s k : Nat) : keyN x s (k + 1) = if dot x (seedN s (k + 1) / 65536) 16 then keyN x s k ||| 2 ^ k else keyN x s k := rfl
theorem keyN_lt (x s : Nat) {k n : Nat} (h : k ≤ n) : keyN x s k < 2 ^ n := ors_lt (Nat.pow_pos (by decide)) _ fun q hq => by omega
theorem keyN_bit (x s k b : Nat) : (keyN x s k).testBit b = (decide (b < k) && dot x (seedN s (b + 1) / 65536) 16) := by
  unfold keyN
  cases hh : (ors (fun i => dot x (seedN s (i + 1) / 65536) 16) (fun i => i) 0 k).testBit b
  · cases h2 : (decide (b < k) && dot x (seedN s (b + 1) / 65536) 16)
    · rfl
    · rw [Bool.and_eq_true, decide_eq_true_eq] at h2
      have := (ors_bit (fun i => dot x (seedN s (i + 1) / 65536) 16) (fun i => i) 0 b k).2 (.inr ⟨b, h2.1, h2.2, rfl⟩)
      rw [hh] at this
      cases this
  · rcases (ors_bit _ _ _ _ _).1 hh with h1 | ⟨q, h1, h2, rfl⟩
    · rw [Nat.zero_testBit] at h1; cases h1
    · rw [decide_eq_true h1, h2]; rfl
theorem key_xor (x y s k : Nat) : keyN (x ^^^ y) s k = keyN x s k ^^^ keyN y s k := by
  apply eq_of_bits
  intro b
  rw [Nat.testBit_xor, keyN_bit, keyN_bit, keyN_bit, dot_comm (x ^^^ y), dot_comm x, dot_comm y, dot_xor]
  cases decide (b < k) <;> cases dot (seedN s (b + 1) / 65536) x 16 <;> cases dot (seedN s (b + 1) / 65536) y 16 <;> rfl
/-! small codes -/
theorem ham2 : validParB 3 [7] = true ∧ perfV 3 [7] = true ∧ distV 3 [7] = 3 := by decide +kernel
theorem ham3 : validParB 7 [7, 25, 42, 75] = true ∧ perfV 7 [7, 25, 42, 75] = true ∧ distV 7 [7, 25, 42, 75] = 3 := by decide +kernel
theorem rep_facts : ∀ n < 10, 1 ≤ n → validParB (n : Nat) [2 ^ n - 1] = true ∧ distV (n : Nat) [2 ^ n - 1] = (n : Nat) ∧ perfV (n : Nat) [2 ^ n - 1] = (n % 2 == 1) := by decide +kernel
/-- the rows of a cyclic code -/
def cycL (p : Nat) : List Int := ((List.range 8).map fun i => ((p * 2 ^ i : Nat) : Int)).filter fun x => decide (x < 256)
theorem cyc_facts : ∀ q < 8, validParB 8 (cycL (1 + 2 * q)) = true ∧ encL (cycL (1 + 2 * q)) 1 = (1 + 2 * q : Nat) ∧ (cycL (1 + 2 * q)).getD 0 0 = (1 + 2 * q : Nat) ∧ 1 ≤ (cycL (1 + 2 * q)).length ∧ (cycL (1 + 2 * q)).length ≤ 8 := by decide +kernel

end Go.Proofs.Ytldnhflgpbcmeaa
