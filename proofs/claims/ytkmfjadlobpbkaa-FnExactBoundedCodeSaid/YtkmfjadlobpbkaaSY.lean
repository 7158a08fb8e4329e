/-
  Plain: a stable sort by blocks: places that are sorted by keys, equal ones in their order; parts that are merged in place.
  Conditions: none.
-/
import Derived.Test.YtkmfjadlobpbkaaF
namespace Go.Proofs.Ytkmfjadlobpbkaa

section
variable (key : Nat → Int)
/-- of smaller key, or of an equal one and earlier -/
def lo (i j : Nat) : Prop := key i < key j ∨ key i = key j ∧ i < j
theorem lo_irr (i : Nat) : ¬ lo key i i := by unfold lo; omega
theorem lo_trans {i j k : Nat} (h : lo key i j) (h2 : lo key j k) : lo key i k := by unfold lo at *; omega
theorem lo_tot {i j : Nat} (h : i ≠ j) (h2 : ¬ lo key i j) : lo key j i := by unfold lo at *; omega
/-- an earlier one against a later one: the later key's being smaller decides -/
theorem lo_of_not {i j : Nat} (h : i < j) (h2 : ¬ key j < key i) : lo key i j := by unfold lo; omega
theorem lo_of_lt {i j : Nat} (h2 : key j < key i) : lo key j i := .inl h2

/-- places from a to b hold what is sorted -/
def Srt (p : Nat → Nat) (a b : Nat) : Prop := ∀ i j, a ≤ i → i < j → j < b → lo key (p i) (p j)
/-- what the places from a to b hold -/
def Img (p : Nat → Nat) (a b v : Nat) : Prop := ∃ i, a ≤ i ∧ i < b ∧ p i = v
/-- only the places from a to b are other ones, and they hold the same all together -/
structure Shuf (p q : Nat → Nat) (a b : Nat) : Prop where
  out : ∀ i, i < a ∨ b ≤ i → q i = p i
  img : ∀ v, Img q a b v ↔ Img p a b v
variable {key}
theorem Shuf.refl (p : Nat → Nat) (a b : Nat) : Shuf p p a b := ⟨fun _ _ => rfl, fun _ => Iff.rfl⟩
theorem Shuf.trans {p q r : Nat → Nat} {a b : Nat} (h : Shuf p q a b) (k : Shuf q r a b) : Shuf p r a b :=
  ⟨fun i hi => (k.out i hi).trans (h.out i hi), fun v => (k.img v).trans (h.img v)⟩
theorem Shuf.wide {p q : Nat → Nat} {a b c d : Nat} (h : Shuf p q a b) (h1 : c ≤ a) (h2 : b ≤ d) : Shuf p q c d := by
  refine ⟨fun i hi => h.out i (by omega), fun v => ⟨?_, ?_⟩⟩
  · rintro ⟨i, i1, i2, i3⟩
    by_cases hi : i < a ∨ b ≤ i
    · exact ⟨i, i1, i2, by rw [← h.out i hi]; exact i3⟩
    · obtain ⟨j, j1, j2, j3⟩ := (h.img v).1 ⟨i, by omega, by omega, i3⟩
      exact ⟨j, by omega, by omega, j3⟩
  · rintro ⟨i, i1, i2, i3⟩
    by_cases hi : i < a ∨ b ≤ i
    · exact ⟨i, i1, i2, by rw [h.out i hi]; exact i3⟩
    · obtain ⟨j, j1, j2, j3⟩ := (h.img v).2 ⟨i, by omega, by omega, i3⟩
      exact ⟨j, by omega, by omega, j3⟩
theorem Srt.part {p : Nat → Nat} {a b c d : Nat} (h : Srt key p a b) (h1 : a ≤ c) (h2 : d ≤ b) : Srt key p c d := fun i j hi hij hj => h i j (by omega) hij (by omega)
theorem Srt.same {p q : Nat → Nat} {a b : Nat} (h : Srt key p a b) (he : ∀ i, a ≤ i → i < b → q i = p i) : Srt key q a b := fun i j hi hij hj => by
  rw [he i hi (by omega), he j (by omega) hj]; exact h i j hi hij hj

/-! ### Two places exchanged -/
def swp (p : Nat → Nat) (i j k : Nat) : Nat := if k = i then p j else if k = j then p i else p k
theorem swp_shuf (p : Nat → Nat) {i j a b : Nat} (hi : a ≤ i ∧ i < b) (hj : a ≤ j ∧ j < b) : Shuf p (swp p i j) a b := by
  refine ⟨fun k hk => by unfold swp; rw [if_neg (by omega), if_neg (by omega)], fun v => ⟨?_, ?_⟩⟩
  · rintro ⟨k, k1, k2, k3⟩
    unfold swp at k3
    split at k3
    · exact ⟨j, hj.1, hj.2, k3⟩
    · split at k3
      · exact ⟨i, hi.1, hi.2, k3⟩
      · exact ⟨k, k1, k2, k3⟩
  · rintro ⟨k, k1, k2, k3⟩
    by_cases h1 : k = i
    · refine ⟨j, hj.1, hj.2, ?_⟩
      unfold swp
      by_cases h2 : j = i
      · rw [if_pos h2]; rw [h2, ← h1]; exact k3
      · rw [if_neg h2, if_pos rfl, ← h1]; exact k3
    · by_cases h2 : k = j
      · refine ⟨i, hi.1, hi.2, ?_⟩
        unfold swp
        rw [if_pos rfl, ← h2]; exact k3
      · exact ⟨k, k1, k2, by unfold swp; rw [if_neg h1, if_neg h2]; exact k3⟩

/-! ### One goes down to its place -/
/-- the one at j is on its way down among sorted ones -/
structure Down (key : Nat → Int) (p : Nat → Nat) (a i j : Nat) (x : Nat) : Prop where
  at_ : p j = x
  le : a ≤ j ∧ j ≤ i
  rest : ∀ s t, a ≤ s → s < t → t ≤ i → s ≠ j → t ≠ j → lo key (p s) (p t)
  up : ∀ t, j < t → t ≤ i → lo key x (p t)
theorem Down.start {p : Nat → Nat} {a i : Nat} (h : Srt key p a i) (ha : a ≤ i) : Down key p a i i (p i) :=
  ⟨rfl, ⟨ha, Nat.le_refl _⟩, fun s t hs hst ht h1 h2 => h s t hs hst (by omega), fun t h1 h2 => by omega⟩
theorem Down.step {p : Nat → Nat} {a i j x : Nat} (h : Down key p a i j x) (hj : a < j) (hl : lo key x (p (j - 1))) : Down key (swp p j (j - 1)) a i (j - 1) x := by
  have hle := h.le
  refine ⟨?_, by omega, ?_, ?_⟩
  · unfold swp; rw [if_neg (by omega), if_pos rfl]; exact h.at_
  · intro s t hs hst ht h1 h2
    unfold swp
    by_cases e1 : s = j
    · rw [if_pos e1, if_neg (by omega), if_neg (by omega)]
      exact h.rest (j - 1) t (by omega) (by omega) ht (by omega) (by omega)
    · by_cases e2 : t = j
      · rw [if_neg e1, if_neg h1, if_pos e2]
        exact h.rest s (j - 1) hs (by omega) (by omega) (by omega) (by omega)
      · rw [if_neg e1, if_neg h1, if_neg e2, if_neg h2]
        exact h.rest s t hs hst ht e1 e2
  · intro t h1 h2
    unfold swp
    by_cases e2 : t = j
    · rw [if_pos e2]; exact hl
    · rw [if_neg e2, if_neg (by omega)]
      exact h.up t (by omega) h2
theorem Down.done {p : Nat → Nat} {a i j x : Nat} (h : Down key p a i j x) (hl : a < j → lo key (p (j - 1)) x) : Srt key p a (i + 1) := by
  have hle := h.le
  intro s t hs hst ht
  by_cases e2 : t = j
  · subst e2
    rw [h.at_]
    have h1 := hl (by omega)
    by_cases e3 : s = t - 1
    · rw [e3]; exact h1
    · exact lo_trans key (h.rest s (t - 1) hs (by omega) (by omega) (by omega) (by omega)) h1
  · by_cases e1 : s = j
    · subst e1
      rw [h.at_]
      exact h.up t hst (by omega)
    · exact h.rest s t hs hst (by omega) e1 e2

/-! ### Parts that change places -/
def rot (p : Nat → Nat) (a m b k : Nat) : Nat := if a ≤ k ∧ k < a + (b - m) then p (k + (m - a)) else if a + (b - m) ≤ k ∧ k < b then p (k - (b - m)) else p k
def swpR (p : Nat → Nat) (a b n k : Nat) : Nat := if a ≤ k ∧ k < a + n then p (k - a + b) else if b ≤ k ∧ k < b + n then p (k - b + a) else p k
theorem rot_shuf (p : Nat → Nat) {a m b : Nat} (h1 : a ≤ m) (h2 : m ≤ b) : Shuf p (rot p a m b) a b := by
  refine ⟨fun k hk => by unfold rot; rw [if_neg (by omega), if_neg (by omega)], fun v => ⟨?_, ?_⟩⟩
  · rintro ⟨k, k1, k2, k3⟩
    unfold rot at k3
    split at k3
    · exact ⟨k + (m - a), by omega, by omega, k3⟩
    · rw [if_pos (by omega)] at k3
      exact ⟨k - (b - m), by omega, by omega, k3⟩
  · rintro ⟨k, k1, k2, k3⟩
    by_cases h : k < m
    · refine ⟨k + (b - m), by omega, by omega, ?_⟩
      unfold rot
      rw [if_neg (by omega), if_pos (by omega), show k + (b - m) - (b - m) = k by omega]
      exact k3
    · refine ⟨k - (m - a), by omega, by omega, ?_⟩
      unfold rot
      rw [if_pos (by omega), show k - (m - a) + (m - a) = k by omega]
      exact k3
theorem rot_left (p : Nat → Nat) (a b : Nat) : rot p a a b = p := by
  funext k
  unfold rot
  by_cases h1 : a ≤ k ∧ k < a + (b - a)
  · rw [if_pos h1, show k + (a - a) = k by omega]
  · rw [if_neg h1, if_neg (by omega)]
theorem rot_right (p : Nat → Nat) (a b : Nat) : rot p a b b = p := by
  funext k
  unfold rot
  rw [if_neg (by omega)]
  by_cases h1 : a + (b - b) ≤ k ∧ k < b
  · rw [if_pos h1, show k - (b - b) = k by omega]
  · rw [if_neg h1]
theorem swpR_one (p : Nat → Nat) {a b k : Nat} (hd : a + k < b) : swp (swpR p a b k) (a + k) (b + k) = swpR p a b (k + 1) := by
  funext t
  unfold swp swpR
  by_cases h1 : t = a + k
  · rw [if_pos h1, if_neg (by omega), if_neg (by omega), if_pos (by omega)]
    congr 1; omega
  · rw [if_neg h1]
    by_cases h2 : t = b + k
    · rw [if_pos h2, if_neg (by omega), if_neg (by omega), if_neg (by omega), if_pos (by omega)]
      congr 1; omega
    · rw [if_neg h2]
      by_cases h3 : a ≤ t ∧ t < a + k
      · rw [if_pos h3, if_pos (by omega)]
      · rw [if_neg h3, if_neg (show ¬ (a ≤ t ∧ t < a + (k + 1)) by omega)]
        by_cases h4 : b ≤ t ∧ t < b + k
        · rw [if_pos h4, if_pos (by omega)]
        · rw [if_neg h4, if_neg (by omega)]
theorem swpR_zero (p : Nat → Nat) (a b : Nat) : swpR p a b 0 = p := by
  funext t
  unfold swpR
  rw [if_neg (by omega), if_neg (by omega)]
/-- what is left to be done where i places ahead of m and j behind it are to change sides -/
theorem rot_more_i (p : Nat → Nat) {m i j : Nat} (hi : i ≤ m) (h : j < i) : rot (swpR p (m - i) m j) (m - (i - j)) m (m + j) = rot p (m - i) m (m + j) := by
  funext k
  unfold rot swpR
  by_cases h1 : m - i ≤ k ∧ k < m - i + j
  · rw [if_neg (by omega), if_neg (by omega), if_pos (by omega), if_pos (by omega)]
    congr 1; omega
  · by_cases h2 : m - (i - j) ≤ k ∧ k < m - (i - j) + (m + j - m)
    · rw [if_pos h2, if_neg (by omega), if_pos (by omega), if_neg (by omega), if_pos (by omega)]
      congr 1; omega
    · rw [if_neg h2]
      by_cases h3 : m - (i - j) + (m + j - m) ≤ k ∧ k < m + j
      · rw [if_pos h3, if_neg (by omega), if_neg (by omega), if_neg (by omega), if_pos (by omega)]
      · rw [if_neg h3, if_neg (by omega), if_neg (by omega), if_neg (by omega), if_neg (by omega)]
theorem rot_more_j (p : Nat → Nat) {m i j : Nat} (hi : i ≤ m) (h : i < j) : rot (swpR p (m - i) (m + j - i) i) (m - i) m (m + (j - i)) = rot p (m - i) m (m + j) := by
  funext k
  unfold rot swpR
  by_cases h1 : m - i ≤ k ∧ k < m - i + (m + (j - i) - m)
  · rw [if_pos h1]
    rw [if_neg (by omega), if_neg (by omega), if_pos (by omega)]
  · rw [if_neg h1]
    by_cases h2 : m - i + (m + (j - i) - m) ≤ k ∧ k < m + (j - i)
    · rw [if_pos h2, if_pos (by omega), if_pos (by omega)]
      congr 1; omega
    · rw [if_neg h2]
      by_cases h3 : m + j - i ≤ k ∧ k < m + j
      · rw [if_neg (by omega), if_pos (by omega), if_neg (by omega), if_pos (by omega)]
        congr 1; omega
      · rw [if_neg (by omega), if_neg (by omega), if_neg (by omega), if_neg (by omega)]
theorem rot_even (p : Nat → Nat) {m i : Nat} (hi : i ≤ m) : swpR p (m - i) m i = rot p (m - i) m (m + i) := by
  funext k
  unfold rot swpR
  by_cases h1 : m - i ≤ k ∧ k < m - i + i
  · rw [if_pos h1, if_pos (by omega)]
    congr 1; omega
  · rw [if_neg h1]
    by_cases h2 : m ≤ k ∧ k < m + i
    · rw [if_pos h2, if_neg (by omega), if_pos (by omega)]
      congr 1; omega
    · rw [if_neg h2, if_neg (by omega), if_neg (by omega)]

/-! ### Two sorted parts merged -/
/-- two parts, each sorted, the second one's later in order -/
structure Parts (key : Nat → Int) (p : Nat → Nat) (a m b : Nat) : Prop where
  l : Srt key p a m
  r : Srt key p m b
  tag : ∀ i j, a ≤ i → i < m → m ≤ j → j < b → p i < p j
/-- where the parts are to be cut: all ahead are less than all behind -/
structure Cut (key : Nat → Int) (p : Nat → Nat) (a m b s e : Nat) : Prop where
  s1 : a ≤ s
  s2 : s ≤ m
  e1 : m ≤ e
  e2 : e ≤ b
  low : a < s → e < b → lo key (p (s - 1)) (p e)
  up : s < m → m < e → lo key (p (e - 1)) (p s)
theorem Cut.cross {p : Nat → Nat} {a m b s e : Nat} (h : Parts key p a m b) (c : Cut key p a m b s e) (mid : Nat) (hm : mid - a = (s - a) + (e - m)) (hma : a ≤ mid) {i j : Nat} (hi : a ≤ i ∧ i < mid) (hj : mid ≤ j ∧ j < b) : lo key (rot p s m e i) (rot p s m e j) := by
  obtain ⟨c1, c2, c3, c4, c5, c6⟩ := c
  -- what lies ahead: the first ones of the left part, or the first ones of the right part
  have left : ∃ x, rot p s m e i = p x ∧ (a ≤ x ∧ x < s ∨ m ≤ x ∧ x < e) := by
    unfold rot
    by_cases h1 : i < s
    · exact ⟨i, by rw [if_neg (by omega), if_neg (by omega)], .inl ⟨hi.1, h1⟩⟩
    · exact ⟨i + (m - s), by rw [if_pos (by omega)], .inr (by omega)⟩
  have right : ∃ y, rot p s m e j = p y ∧ (s ≤ y ∧ y < m ∨ e ≤ y ∧ y < b) := by
    unfold rot
    by_cases h1 : j < e
    · exact ⟨j - (e - m), by rw [if_neg (by omega), if_pos (by omega)], .inl (by omega)⟩
    · exact ⟨j, by rw [if_neg (by omega), if_neg (by omega)], .inr (by omega)⟩
  obtain ⟨x, ex, hx⟩ := left
  obtain ⟨y, ey, hy⟩ := right
  rw [ex, ey]
  rcases hx with hx | hx <;> rcases hy with hy | hy
  · exact h.l x y hx.1 (by omega) hy.2
  · have h1 := c5 (by omega) (by omega)
    have h2 : lo key (p x) (p e) := by
      by_cases hq : x = s - 1
      · rw [hq]; exact h1
      · exact lo_trans key (h.l x (s - 1) hx.1 (by omega) (by omega)) h1
    by_cases hq : y = e
    · rw [hq]; exact h2
    · exact lo_trans key h2 (h.r e y (by omega) (by omega) hy.2)
  · have h1 := c6 (by omega) (by omega)
    have h2 : lo key (p x) (p s) := by
      by_cases hq : x = e - 1
      · rw [hq]; exact h1
      · exact lo_trans key (h.r x (e - 1) hx.1 (by omega) (by omega)) h1
    by_cases hq : y = s
    · rw [hq]; exact h2
    · exact lo_trans key h2 (h.l s y (by omega) (by omega) hy.2)
  · exact h.r x y hx.1 (by omega) hy.2
/-- the first half, behind the change of places, is in two parts again -/
theorem Cut.first {p : Nat → Nat} {a m b s e : Nat} (h : Parts key p a m b) (c : Cut key p a m b s e) (mid : Nat) (hm : mid - a = (s - a) + (e - m)) (hma : a ≤ mid) : Parts key (rot p s m e) a s mid := by
  obtain ⟨c1, c2, c3, c4, _, _⟩ := c
  have e1 : ∀ i, a ≤ i → i < s → rot p s m e i = p i := fun i h1 h2 => by unfold rot; rw [if_neg (by omega), if_neg (by omega)]
  have e2 : ∀ i, s ≤ i → i < mid → rot p s m e i = p (i + (m - s)) := fun i h1 h2 => by unfold rot; rw [if_pos (by omega)]
  refine ⟨?_, ?_, ?_⟩
  · intro i j h1 h2 h3
    rw [e1 i h1 (by omega), e1 j (by omega) h3]
    exact h.l i j h1 h2 (by omega)
  · intro i j h1 h2 h3
    rw [e2 i h1 (by omega), e2 j (by omega) h3]
    exact h.r _ _ (by omega) (by omega) (by omega)
  · intro i j h1 h2 h3 h4
    rw [e1 i h1 h2, e2 j h3 h4]
    exact h.tag _ _ h1 (by omega) (by omega) (by omega)
theorem Cut.second {p : Nat → Nat} {a m b s e : Nat} (h : Parts key p a m b) (c : Cut key p a m b s e) (mid : Nat) (hm : mid - a = (s - a) + (e - m)) (hma : a ≤ mid) : Parts key (rot p s m e) mid e b := by
  obtain ⟨c1, c2, c3, c4, _, _⟩ := c
  have e1 : ∀ i, mid ≤ i → i < e → rot p s m e i = p (i - (e - m)) := fun i h1 h2 => by unfold rot; rw [if_neg (by omega), if_pos (by omega)]
  have e2 : ∀ i, e ≤ i → i < b → rot p s m e i = p i := fun i h1 h2 => by unfold rot; rw [if_neg (by omega), if_neg (by omega)]
  refine ⟨?_, ?_, ?_⟩
  · intro i j h1 h2 h3
    rw [e1 i h1 (by omega), e1 j (by omega) h3]
    exact h.l _ _ (by omega) (by omega) (by omega)
  · intro i j h1 h2 h3
    rw [e2 i h1 (by omega), e2 j (by omega) h3]
    exact h.r _ _ (by omega) (by omega) (by omega)
  · intro i j h1 h2 h3 h4
    rw [e1 i h1 h2, e2 j h3 h4]
    exact h.tag _ _ (by omega) (by omega) (by omega) (by omega)
/-- halves that are sorted, all of one less than all of the other -/
theorem srt_halves {p q : Nat → Nat} {a mid b : Nat} (hc : ∀ i j, a ≤ i → i < mid → mid ≤ j → j < b → lo key (p i) (p j)) (i1 : ∀ v, Img q a mid v ↔ Img p a mid v) (i2 : ∀ v, Img q mid b v ↔ Img p mid b v) (s1 : Srt key q a mid) (s2 : Srt key q mid b) : Srt key q a b := by
  intro i j hi hij hj
  by_cases h3 : j < mid
  · exact s1 i j hi hij h3
  · by_cases h4 : mid ≤ i
    · exact s2 i j h4 hij hj
    · obtain ⟨x, x1, x2, x3⟩ := (i1 (q i)).1 ⟨i, hi, by omega, rfl⟩
      obtain ⟨y, y1, y2, y3⟩ := (i2 (q j)).1 ⟨j, by omega, hj, rfl⟩
      rw [← x3, ← y3]
      exact hc x y x1 x2 y1 y2
/-- of two sorted rows that hold the same, each place holds the same -/
theorem srt_unique {p q : Nat → Nat} {b : Nat} : ∀ a n, b = a + n → Srt key p a b → Srt key q a b → (∀ v, Img q a b v ↔ Img p a b v) → ∀ i, a ≤ i → i < b → q i = p i := by
  intro a n
  induction n generalizing a with
  | zero => intro hb _ _ _ i h1 h2; omega
  | succ n ih =>
    intro hb sp sq hi
    have h0 : q a = p a := by
      obtain ⟨x, x1, x2, x3⟩ := (hi (q a)).1 ⟨a, Nat.le_refl _, by omega, rfl⟩
      obtain ⟨y, y1, y2, y3⟩ := (hi (p a)).2 ⟨a, Nat.le_refl _, by omega, rfl⟩
      by_cases hx : x = a
      · rw [← x3, hx]
      · by_cases hy : y = a
        · rw [← y3, hy]
        · have g1 := sp a x (Nat.le_refl _) (by omega) x2
          have g2 := sq a y (Nat.le_refl _) (by omega) y2
          rw [x3] at g1
          rw [y3] at g2
          exact absurd (lo_trans key g1 g2) (lo_irr key _)
    have hi2 : ∀ v, Img q (a + 1) b v ↔ Img p (a + 1) b v := by
      intro v
      constructor
      · rintro ⟨x, x1, x2, x3⟩
        obtain ⟨y, y1, y2, y3⟩ := (hi v).1 ⟨x, by omega, x2, x3⟩
        by_cases hy : y = a
        · exfalso
          have g := sq a x (Nat.le_refl _) (by omega) x2
          rw [x3, h0, ← y3, hy] at g
          exact lo_irr key _ g
        · exact ⟨y, by omega, y2, y3⟩
      · rintro ⟨x, x1, x2, x3⟩
        obtain ⟨y, y1, y2, y3⟩ := (hi v).2 ⟨x, by omega, x2, x3⟩
        by_cases hy : y = a
        · exfalso
          have g := sp a x (Nat.le_refl _) (by omega) x2
          rw [x3, ← h0, ← y3, hy] at g
          exact lo_irr key _ g
        · exact ⟨y, by omega, y2, y3⟩
    intro i h1 h2
    by_cases hia : i = a
    · rw [hia]; exact h0
    · exact ih (a + 1) (by omega) (sp.part (by omega) (Nat.le_refl _)) (sq.part (by omega) (Nat.le_refl _)) hi2 i (by omega) h2
/-- the search's end is a cut -/
theorem cut_of {p : Nat → Nat} {a m b mid s s0 r0 : Nat} (h1 : a ≤ mid) (h2 : 2 * mid ≤ a + b) (h3 : a + b ≤ 2 * mid + 1) (ham : a ≤ m) (hmb : m ≤ b) (hs : (mid < m → s0 + b = mid + m ∧ r0 = mid) ∧ (m ≤ mid → s0 = a ∧ r0 = m)) (hr : s0 ≤ s ∧ s ≤ r0)
    (hA : s0 < s → lo key (p (s - 1)) (p (mid + m - 1 - (s - 1)))) (hB : s < r0 → lo key (p (mid + m - 1 - s)) (p s)) : Cut key p a m b s (mid + m - s) ∧ mid - a = (s - a) + (mid + m - s - m) := by
  refine ⟨⟨by omega, by omega, by omega, by omega, fun h4 h5 => ?_, fun h4 h5 => ?_⟩, by omega⟩
  · have := hA (by omega)
    rwa [show mid + m - 1 - (s - 1) = mid + m - s by omega] at this
  · have := hB (by omega)
    rwa [show mid + m - 1 - s = mid + m - s - 1 by omega] at this
theorem one_up {p : Nat → Nat} {a b i : Nat} (h : Parts key p a (a + 1) b) (hi : a + 1 ≤ i ∧ i ≤ b) (hA : a + 1 < i → lo key (p (i - 1)) (p a)) (hB : i < b → lo key (p a) (p i)) : Srt key (rot p a (a + 1) i) a b := by
  have e1 : ∀ k, a ≤ k → k < i - 1 → rot p a (a + 1) i k = p (k + 1) := fun k h1 h2 => by unfold rot; rw [if_pos (by omega)]; congr 1; omega
  have e2 : rot p a (a + 1) i (i - 1) = p a := by unfold rot; rw [if_neg (by omega), if_pos (by omega)]; congr 1; omega
  have e3 : ∀ k, i ≤ k → rot p a (a + 1) i k = p k := fun k h1 => by unfold rot; rw [if_neg (by omega), if_neg (by omega)]
  intro s t hs hst ht
  by_cases h1 : t < i - 1
  · rw [e1 s hs (by omega), e1 t (by omega) h1]
    exact h.r _ _ (by omega) (by omega) (by omega)
  · by_cases h2 : t = i - 1
    · subst h2
      rw [e1 s hs hst, e2]
      have h3 := hA (by omega)
      by_cases h4 : s + 1 = i - 1
      · rw [h4]; exact h3
      · exact lo_trans key (h.r (s + 1) (i - 1) (by omega) (by omega) (by omega)) h3
    · rw [e3 t (by omega)]
      by_cases h3 : s < i - 1
      · rw [e1 s hs h3]
        exact h.r _ _ (by omega) (by omega) (by omega)
      · by_cases h4 : s = i - 1
        · rw [h4, e2]
          have h5 := hB (by omega)
          by_cases h6 : t = i
          · rw [h6]; exact h5
          · exact lo_trans key h5 (h.r i t (by omega) (by omega) (by omega))
        · rw [e3 s (by omega)]
          exact h.r _ _ (by omega) hst ht
theorem one_down {p : Nat → Nat} {a m i : Nat} (h : Parts key p a m (m + 1)) (hi : a ≤ i ∧ i ≤ m) (hA : a < i → lo key (p (i - 1)) (p m)) (hB : i < m → lo key (p m) (p i)) : Srt key (rot p i m (m + 1)) a (m + 1) := by
  have e1 : ∀ k, k < i → rot p i m (m + 1) k = p k := fun k h1 => by unfold rot; rw [if_neg (by omega), if_neg (by omega)]
  have e2 : rot p i m (m + 1) i = p m := by unfold rot; rw [if_pos (by omega)]; congr 1; omega
  have e3 : ∀ k, i < k → k ≤ m → rot p i m (m + 1) k = p (k - 1) := fun k h1 h2 => by unfold rot; rw [if_neg (by omega), if_pos (by omega)]; congr 1; omega
  intro s t hs hst ht
  by_cases h1 : t < i
  · rw [e1 s (by omega), e1 t h1]
    exact h.l _ _ hs hst (by omega)
  · by_cases h2 : t = i
    · subst h2
      rw [e1 s hst, e2]
      have h3 := hA (by omega)
      by_cases h4 : s = t - 1
      · rw [h4]; exact h3
      · exact lo_trans key (h.l s (t - 1) hs (by omega) (by omega)) h3
    · rw [e3 t (by omega) (by omega)]
      by_cases h3 : s < i
      · rw [e1 s h3]
        exact h.l _ _ hs (by omega) (by omega)
      · by_cases h4 : s = i
        · subst h4
          rw [e2]
          have h5 := hB (by omega)
          by_cases h6 : t - 1 = s
          · rw [h6]; exact h5
          · exact lo_trans key h5 (h.l s (t - 1) hs (by omega) (by omega))
        · rw [e3 s (by omega) (by omega)]
          exact h.l _ _ (by omega) (by omega) (by omega)
/-- one place further up, or down -/
theorem rot_up (p : Nat → Nat) {a k : Nat} (h : a ≤ k) : swp (rot p a (a + 1) (k + 1)) k (k + 1) = rot p a (a + 1) (k + 2) := by
  funext t
  unfold swp rot
  by_cases h1 : t = k
  · rw [if_pos h1, if_neg (by omega), if_neg (by omega), if_pos (by omega)]
    congr 1; omega
  · rw [if_neg h1]
    by_cases h2 : t = k + 1
    · rw [if_pos h2, if_neg (by omega), if_pos (by omega), if_neg (by omega), if_pos (by omega)]
      congr 1; omega
    · rw [if_neg h2]
      by_cases h3 : a ≤ t ∧ t < a + (k + 1 - (a + 1))
      · rw [if_pos h3, if_pos (by omega)]
      · rw [if_neg h3, if_neg (by omega), if_neg (by omega), if_neg (by omega)]
theorem rot_down (p : Nat → Nat) {k m : Nat} (h : k < m) : swp (rot p (k + 1) m (m + 1)) (k + 1) k = rot p k m (m + 1) := by
  funext t
  unfold swp rot
  by_cases h1 : t = k + 1
  · rw [if_pos h1, if_neg (by omega), if_neg (by omega), if_neg (by omega), if_pos (by omega)]
    congr 1; omega
  · rw [if_neg h1]
    by_cases h2 : t = k
    · rw [if_pos h2, if_pos (by omega), if_pos (by omega)]
      congr 1; omega
    · rw [if_neg h2, if_neg (by omega)]
      by_cases h3 : k + 1 + (m + 1 - m) ≤ t ∧ t < m + 1
      · rw [if_pos h3, if_neg (by omega), if_pos (by omega)]
      · rw [if_neg h3, if_neg (by omega), if_neg (by omega)]
theorem Parts.same {p q : Nat → Nat} {a m b : Nat} (h : Parts key p a m b) (he : ∀ i, a ≤ i → i < b → q i = p i) (h1 : a ≤ m) (h2 : m ≤ b) : Parts key q a m b :=
  ⟨h.l.same fun i h3 h4 => he i h3 (by omega), h.r.same fun i h3 h4 => he i (by omega) h4, fun i j h3 h4 h5 h6 => by rw [he i h3 (by omega), he j (by omega) h6]; exact h.tag i j h3 h4 h5 h6⟩
theorem merge_end {p q1 q2 : Nat → Nat} {a m b s e mid : Nat} (h : Parts key p a m b) (c : Cut key p a m b s e) (hm : mid - a = (s - a) + (e - m)) (hma : a ≤ mid) (hmb : mid ≤ b) (f1 : Shuf (rot p s m e) q1 a mid) (s1 : Srt key q1 a mid) (f2 : Shuf q1 q2 mid b) (s2 : Srt key q2 mid b) : Srt key q2 a b ∧ Shuf p q2 a b := by
  refine ⟨srt_halves (fun i j h1 h2 h3 h4 => c.cross h mid hm hma ⟨h1, h2⟩ ⟨h3, h4⟩) (fun v => ?_) (fun v => ?_) (s1.same fun i h1 h2 => f2.out i (by omega)) s2, ?_⟩
  · refine Iff.trans ⟨?_, ?_⟩ (f1.img v)
    · rintro ⟨i, i1, i2, i3⟩
      exact ⟨i, i1, i2, (f2.out i (by omega)).symm.trans i3⟩
    · rintro ⟨i, i1, i2, i3⟩
      exact ⟨i, i1, i2, (f2.out i (by omega)).trans i3⟩
  · refine (f2.img v).trans ⟨?_, ?_⟩
    · rintro ⟨i, i1, i2, i3⟩
      exact ⟨i, i1, i2, (f1.out i (by omega)).symm.trans i3⟩
    · rintro ⟨i, i1, i2, i3⟩
      exact ⟨i, i1, i2, (f1.out i (by omega)).trans i3⟩
  · have hc := c
    obtain ⟨c1, c2, c3, c4, _, _⟩ := hc
    exact (((rot_shuf p c2 c3).wide c1 c4).trans (f1.wide (Nat.le_refl _) hmb)).trans (f2.wide hma (Nat.le_refl _))
end

end Go.Proofs.Ytkmfjadlobpbkaa
