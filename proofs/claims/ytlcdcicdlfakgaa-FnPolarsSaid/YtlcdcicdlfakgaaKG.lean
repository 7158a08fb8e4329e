/-
  Plain: turned bits, as functions on places: rounds commute and undo themselves.
  Conditions: rows of 1, 2, 4, .. 32 bits.
-/
import Derived.Test.YtlcdcicdlfakgaaPT
namespace Go.Proofs.Ytlcdcicdlfakgaa

/-- a round at distance h -/
def rnd (h : Nat) (f : Nat → Bool) (i : Nat) : Bool := if i / h % 2 = 0 then f i != f (i + h) else f i
def fun_ (l : List Bool) (i : Nat) : Bool := l.getD i false
/-- the rounds at distances 1 .. 2^(j-1) -/
def enc (f : Nat → Bool) : Nat → Nat → Bool
  | 0 => f
  | j + 1 => rnd (2 ^ j) (enc f j)
theorem bne_comm4 (a b c d : Bool) : ((a != b) != (c != d)) = ((a != c) != (b != d)) := by cases a <;> cases b <;> cases c <;> cases d <;> rfl
theorem bne_can (a b : Bool) : ((a != b) != b) = a := by cases a <;> cases b <;> rfl
theorem div_far {i h n : Nat} (q : Nat) (h0 : 0 < h) (hn : n = h * (2 * q)) : (i + n) / h % 2 = i / h % 2 := by
  rw [hn, Nat.add_mul_div_left _ _ h0]
  omega
theorem div_near {i h n : Nat} (q : Nat) (h0 : 0 < h) (hq : 0 < q) (hn : n = h * (2 * q)) (he : i / h % 2 = 0) : (i + h) / n = i / n := by
  -- i = n * a + r with r / h even: r + h < n
  have hn0 : 0 < n := by rw [hn]; exact Nat.mul_pos h0 (by omega)
  have h1 := Nat.div_add_mod i n
  have h2 := Nat.mod_lt i hn0
  obtain ⟨a, ha⟩ : ∃ a, i / n = a := ⟨_, rfl⟩
  obtain ⟨r, hr⟩ : ∃ r, i % n = r := ⟨_, rfl⟩
  rw [ha, hr] at h1
  rw [hr] at h2
  have e1 : i / h = 2 * q * a + r / h := by
    rw [← h1, hn, Nat.mul_assoc, Nat.add_comm, Nat.add_mul_div_left _ _ h0]
    omega
  have e2 : r / h % 2 = 0 := by
    have : (2 * q * a + r / h) % 2 = r / h % 2 := by rw [Nat.mul_assoc, Nat.mul_add_mod]
    rw [← this, ← e1]; exact he
  have e3 : r / h < 2 * q := Nat.div_lt_of_lt_mul (by rw [← hn]; exact h2)
  have e4 : r / h + 2 ≤ 2 * q := by omega
  have e5 := Nat.div_add_mod r h
  have e6 := Nat.mod_lt r h0
  have e7 : h * (r / h + 2) ≤ h * (2 * q) := Nat.mul_le_mul_left h e4
  rw [Nat.mul_add] at e7
  have e8 : r + h < n := by omega
  rw [ha, ← h1, Nat.add_assoc, Nat.add_comm, Nat.add_mul_div_left _ _ hn0, Nat.div_eq_of_lt e8, Nat.zero_add]
theorem rnd_comm {h n : Nat} (q : Nat) (h0 : 0 < h) (hq : 0 < q) (hn : n = h * (2 * q)) (f : Nat → Bool) : rnd n (rnd h f) = rnd h (rnd n f) := by
  funext i
  have e1 := div_far (i := i) q h0 hn
  by_cases a : i / n % 2 = 0
  · by_cases b : i / h % 2 = 0
    · have e2 := div_near q h0 hq hn b
      have c1 : (i + n) / h % 2 = 0 := by rw [e1]; exact b
      have c2 : (i + h) / n % 2 = 0 := by rw [e2]; exact a
      show (if i / n % 2 = 0 then rnd h f i != rnd h f (i + n) else rnd h f i) = (if i / h % 2 = 0 then rnd n f i != rnd n f (i + h) else rnd n f i)
      rw [if_pos a, if_pos b]
      unfold rnd
      rw [if_pos b, if_pos c1, if_pos a, if_pos c2, bne_comm4, show i + n + h = i + h + n by omega]
    · have c1 : ¬ (i + n) / h % 2 = 0 := by rw [e1]; exact b
      show (if i / n % 2 = 0 then rnd h f i != rnd h f (i + n) else rnd h f i) = (if i / h % 2 = 0 then rnd n f i != rnd n f (i + h) else rnd n f i)
      rw [if_pos a, if_neg b]
      unfold rnd
      rw [if_neg b, if_neg c1, if_pos a]
  · by_cases b : i / h % 2 = 0
    · have e2 := div_near q h0 hq hn b
      have c2 : ¬ (i + h) / n % 2 = 0 := by rw [e2]; exact a
      show (if i / n % 2 = 0 then rnd h f i != rnd h f (i + n) else rnd h f i) = (if i / h % 2 = 0 then rnd n f i != rnd n f (i + h) else rnd n f i)
      rw [if_neg a, if_pos b]
      unfold rnd
      rw [if_pos b, if_neg a, if_neg c2]
    · show (if i / n % 2 = 0 then rnd h f i != rnd h f (i + n) else rnd h f i) = (if i / h % 2 = 0 then rnd n f i != rnd n f (i + h) else rnd n f i)
      rw [if_neg a, if_neg b]
      unfold rnd
      rw [if_neg a, if_neg b]
theorem rnd_two {h : Nat} (h0 : 0 < h) (f : Nat → Bool) : rnd h (rnd h f) = f := by
  funext i
  have e : (i + h) / h = i / h + 1 := by rw [Nat.add_div_right _ h0]
  show (if i / h % 2 = 0 then rnd h f i != rnd h f (i + h) else rnd h f i) = f i
  unfold rnd
  by_cases a : i / h % 2 = 0
  · rw [if_pos a, if_pos a, if_neg (by rw [e]; omega), bne_can]
  · rw [if_neg a, if_neg a]
theorem enc_comm (f : Nat → Bool) (k : Nat) : ∀ j, j ≤ k → rnd (2 ^ k) (enc f j) = enc (rnd (2 ^ k) f) j
  | 0, _ => rfl
  | j + 1, hj => by
    show rnd (2 ^ k) (rnd (2 ^ j) (enc f j)) = rnd (2 ^ j) (enc (rnd (2 ^ k) f) j)
    have e : 2 ^ k = 2 ^ j * (2 * 2 ^ (k - j - 1)) := by
      rw [← Nat.pow_succ', ← Nat.pow_add]
      congr 1
      omega
    rw [rnd_comm (2 ^ (k - j - 1)) (Nat.pow_pos (by decide)) (Nat.pow_pos (by decide)) e, enc_comm f k j (by omega)]
theorem enc_two (f : Nat → Bool) : ∀ j, enc (enc f j) j = f
  | 0 => rfl
  | j + 1 => by
    show rnd (2 ^ j) (enc (rnd (2 ^ j) (enc f j)) j) = f
    rw [← enc_comm _ j j (Nat.le_refl _), rnd_two (Nat.pow_pos (by decide)), enc_two f j]

/-! ### The turning in place is that -/
theorem fun_set (l : List Bool) {i : Nat} (b : Bool) (hi : i < l.length) (t : Nat) : fun_ (l.set i b) t = if t = i then b else fun_ l t := by
  unfold fun_
  rw [List.getD_eq_getElem?_getD, List.getElem?_set]
  by_cases h : i = t
  · subst h
    simp [hi]
  · have : ¬ t = i := fun e => h e.symm
    simp [h, this, List.getD_eq_getElem?_getD]
theorem tround_fun {h : Nat} (h0 : 0 < h) (l : List Bool) (k : Nat) (hk : k ≤ l.length) : ∀ t, fun_ (tround h l k) t = if t < k then rnd h (fun_ l) t else fun_ l t := by
  induction k with
  | zero => intro t; simp [tround]
  | succ k ih =>
    intro t
    have ih := ih (by omega)
    have hl := tround_len h l k
    rw [tround]
    unfold tstep
    by_cases a : k / h % 2 = 0
    · rw [if_pos a, fun_set _ _ (by omega)]
      have e1 : (tround h l k).getD k false = fun_ l k := by
        have := ih k
        rw [if_neg (by omega)] at this
        exact this
      have e2 : (tround h l k).getD (k + h) false = fun_ l (k + h) := by
        have := ih (k + h)
        rw [if_neg (by omega)] at this
        exact this
      rw [e1, e2]
      by_cases b : t = k
      · subst b
        rw [if_pos rfl, if_pos (by omega)]
        unfold rnd
        rw [if_pos a]
      · rw [if_neg b, ih t]
        by_cases c : t < k
        · rw [if_pos c, if_pos (by omega)]
        · rw [if_neg c, if_neg (by omega)]
    · rw [if_neg a, ih t]
      by_cases b : t = k
      · subst b
        rw [if_neg (by omega), if_pos (by omega)]
        unfold rnd
        rw [if_neg a]
      · by_cases c : t < k
        · rw [if_pos c, if_pos (by omega)]
        · rw [if_neg c, if_neg (by omega)]
theorem fun_out (l : List Bool) {t : Nat} (h : l.length ≤ t) : fun_ l t = false := by
  unfold fun_
  rw [List.getD_eq_getElem?_getD, List.getElem?_eq_none h]
  rfl
theorem tround_all {h : Nat} (h0 : 0 < h) (l : List Bool) : fun_ (tround h l l.length) = rnd h (fun_ l) := by
  funext t
  rw [tround_fun h0 l _ (Nat.le_refl _)]
  split
  · rfl
  · rename_i hn
    unfold rnd
    rw [fun_out l (by omega), fun_out l (t := t + h) (by omega)]
    split <;> rfl
theorem half_pow (j : Nat) : 2 ^ (j + 1) / 2 = 2 ^ j := by rw [Nat.pow_succ]; omega
theorem tgo_fun (l : List Bool) : ∀ j f, j ≤ f → fun_ (tgo f (2 ^ j / 2) l) = enc (fun_ l) j := by
  intro j
  induction j generalizing l with
  | zero => intro f _; rw [show 2 ^ 0 / 2 = 0 from rfl, tgo_zero]; rfl
  | succ j ih =>
    intro f hf
    obtain ⟨g, rfl⟩ : ∃ g, f = g + 1 := ⟨f - 1, by omega⟩
    rw [half_pow, tgo_pos _ _ _ (by have := Nat.pow_pos (n := j) (show 0 < 2 by decide); omega), ih _ g (by omega), tround_all (Nat.pow_pos (by decide)), ← enc_comm _ _ _ (Nat.le_refl _)]
    rfl
theorem turn_fun {l : List Bool} {P : Nat} (hP : P ≤ 5) (hl : l.length = 2 ^ P) : fun_ (turnL l) = enc (fun_ l) P := by
  unfold turnL
  rw [hl]
  exact tgo_fun l P 5 hP
theorem list_fun {l m : List Bool} (hl : l.length = m.length) (h : fun_ l = fun_ m) : l = m := by
  apply List.ext_getElem hl
  intro i h1 h2
  have := congrFun h i
  unfold fun_ at this
  rw [List.getD_eq_getElem?_getD, List.getD_eq_getElem?_getD, List.getElem?_eq_getElem h1, List.getElem?_eq_getElem h2] at this
  exact this
/-- turned twice, bits are themselves -/
theorem turn_turn {l : List Bool} {P : Nat} (hP : P ≤ 5) (hl : l.length = 2 ^ P) : turnL (turnL l) = l := by
  refine list_fun (by rw [turnL_len, turnL_len]) ?_
  rw [turn_fun hP (by rw [turnL_len]; exact hl), turn_fun hP hl, enc_two]
/-- the two halves of a block -/
theorem enc_first {f : Nat → Bool} {j a : Nat} (i : Nat) (hi : i < 2 ^ j) : enc f (j + 1) (2 ^ (j + 1) * a + i) = (enc f j (2 ^ (j + 1) * a + i) != enc f j (2 ^ (j + 1) * a + i + 2 ^ j)) := by
  show (if (2 ^ (j + 1) * a + i) / 2 ^ j % 2 = 0 then _ else _) = _
  have e : (2 ^ (j + 1) * a + i) / 2 ^ j = 2 * a := by
    rw [Nat.pow_succ, Nat.mul_assoc, Nat.add_comm, Nat.add_mul_div_left _ _ (Nat.pow_pos (by decide)), Nat.div_eq_of_lt hi, Nat.zero_add]
  rw [e, if_pos (by omega)]
theorem enc_second {f : Nat → Bool} {j a : Nat} (i : Nat) (hi : i < 2 ^ j) : enc f (j + 1) (2 ^ (j + 1) * a + i + 2 ^ j) = enc f j (2 ^ (j + 1) * a + i + 2 ^ j) := by
  show (if (2 ^ (j + 1) * a + i + 2 ^ j) / 2 ^ j % 2 = 0 then _ else _) = _
  have e : (2 ^ (j + 1) * a + i + 2 ^ j) / 2 ^ j = 2 * a + 1 := by
    rw [show 2 ^ (j + 1) * a + i + 2 ^ j = i + 2 ^ j * (2 * a + 1) by rw [Nat.pow_succ, Nat.mul_add, Nat.mul_assoc]; omega, Nat.add_mul_div_left _ _ (Nat.pow_pos (by decide)), Nat.div_eq_of_lt hi, Nat.zero_add]
  rw [e, if_neg (by omega)]

end Go.Proofs.Ytlcdcicdlfakgaa
