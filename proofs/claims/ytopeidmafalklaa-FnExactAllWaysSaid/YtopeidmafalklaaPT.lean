/-
  Plain: turning bits in place.
  Conditions: as each theorem says.
-/
namespace Go.Proofs.Ytopeidmafalklaa

def tstep (h : Nat) (l : List Bool) (i : Nat) : List Bool := if i / h % 2 = 0 then l.set i (l.getD i false != l.getD (i + h) false) else l
def tround (h : Nat) (l : List Bool) : Nat → List Bool
  | 0 => l
  | k + 1 => tstep h (tround h l k) k
def tgo : Nat → Nat → List Bool → List Bool
  | 0, _, l => l
  | f + 1, h, l => if h = 0 then l else tgo f (h / 2) (tround h l l.length)
def turnL (l : List Bool) : List Bool := tgo 5 (l.length / 2) l

theorem tstep_len (h : Nat) (l : List Bool) (i : Nat) : (tstep h l i).length = l.length := by
  unfold tstep; split <;> simp
theorem tround_len (h : Nat) (l : List Bool) (k : Nat) : (tround h l k).length = l.length := by
  induction k with
  | zero => rfl
  | succ k ih => rw [tround, tstep_len, ih]
theorem tgo_len (f h : Nat) (l : List Bool) : (tgo f h l).length = l.length := by
  induction f generalizing h l with
  | zero => rfl
  | succ f ih =>
    rw [tgo]
    split
    · rfl
    · rw [ih, tround_len]
theorem turnL_len (l : List Bool) : (turnL l).length = l.length := tgo_len _ _ _
theorem tgo_zero (f : Nat) (l : List Bool) : tgo f 0 l = l := by cases f <;> simp [tgo]
theorem tgo_pos (f h : Nat) (l : List Bool) (hh : h ≠ 0) : tgo (f + 1) h l = tgo f (h / 2) (tround h l l.length) := by rw [tgo, if_neg hh]

/-- lengths that are powers of two, and their halves -/
def Half (n h : Nat) : Prop := n ∈ [1, 2, 4, 8, 16, 32] ∧ h ∈ [0, 1, 2, 4, 8, 16] ∧ 2 * h ≤ n
theorem Half.start {n : Nat} (h : n ∈ [1, 2, 4, 8, 16, 32]) : Half n (n / 2) := by
  simp only [List.mem_cons, List.not_mem_nil, or_false] at h
  rcases h with rfl | rfl | rfl | rfl | rfl | rfl <;> (unfold Half; decide)
theorem Half.next {n h : Nat} (hh : Half n h) : Half n (h / 2) := by
  obtain ⟨h1, h2, h3⟩ := hh
  refine ⟨h1, ?_, by omega⟩
  simp only [List.mem_cons, List.not_mem_nil, or_false] at h2
  rcases h2 with rfl | rfl | rfl | rfl | rfl | rfl <;> decide
theorem half_bd : ∀ n ∈ [1, 2, 4, 8, 16, 32], ∀ h ∈ [1, 2, 4, 8, 16], 2 * h ≤ n → ∀ i < n, i / h % 2 = 0 → i + h < n := by decide
theorem Half.bd {n h i : Nat} (hh : Half n h) (h0 : h ≠ 0) (hi : i < n) (he : i / h % 2 = 0) : i + h < n := by
  obtain ⟨h1, h2, h3⟩ := hh
  refine half_bd n h1 h ?_ h3 i hi he
  simp only [List.mem_cons, List.not_mem_nil, or_false] at h2 ⊢
  omega
theorem Half.le {n h : Nat} (hh : Half n h) : n ≤ 32 ∧ h ≤ 16 := by
  obtain ⟨h1, h2, h3⟩ := hh
  simp only [List.mem_cons, List.not_mem_nil, or_false] at h1 h2
  omega
theorem even_int (i h : Nat) : (((i : Int) / (h : Int)) % 2 == 0) = decide (i / h % 2 = 0) := by
  rw [Bool.eq_iff_iff]
  simp only [beq_iff_eq, decide_eq_true_eq]
  omega
end Go.Proofs.Ytopeidmafalklaa
