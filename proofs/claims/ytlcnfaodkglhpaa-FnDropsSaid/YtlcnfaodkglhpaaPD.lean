/-
  Plain: what is drawn, which place is the next free one, and the places of a drop.
  Conditions: as each theorem says.
-/
namespace Go.Proofs.Ytlcnfaodkglhpaa

def lcg (s : Int) : Int := (1664525 * s + 1013904223) % 4294967296
def drawB (s n : Int) : Int := lcg s * n / 4294967296

theorem lcg_bd (s : Int) : 0 ≤ lcg s ∧ lcg s < 4294967296 := by unfold lcg; omega
theorem drawB_bd (s n : Int) (h : 1 ≤ n) : 0 ≤ drawB s n ∧ drawB s n < n := by
  have hb := lcg_bd s
  unfold drawB
  have h0 : 0 ≤ lcg s * n := Int.mul_nonneg hb.1 (by omega)
  have h1 : lcg s * n < 4294967296 * n := Int.mul_lt_mul_of_pos_right hb.2 (by omega)
  constructor
  · omega
  · omega

/-- how far the next free place is -/
def far (tk : List Bool) (p : Nat) : Nat := ((List.range tk.length).find? fun d => tk[(p + d) % tk.length]? == some false).getD 0
/-- the next free place -/
def fwd (tk : List Bool) (p : Nat) : Nat := (p + far tk p) % tk.length

theorem far_spec (tk : List Bool) (p : Nat) (hp : p < tk.length) (h : ∃ i : Nat, tk[i]? = some false) :
    far tk p < tk.length ∧ tk[(p + far tk p) % tk.length]? = some false ∧ ∀ j, j < far tk p → tk[(p + j) % tk.length]? = some true := by
  have hn : 0 < tk.length := by omega
  have hex : ∃ d, (List.range tk.length).find? (fun d => tk[(p + d) % tk.length]? == some false) = some d := by
    obtain ⟨i, hi⟩ := h
    have hil : i < tk.length := (List.getElem?_eq_some_iff.1 hi).1
    have hm : ((List.range tk.length).find? (fun d => tk[(p + d) % tk.length]? == some false)).isSome = true := by
      rw [List.find?_isSome]
      refine ⟨(i + tk.length - p) % tk.length, by simpa using Nat.mod_lt _ hn, ?_⟩
      have e : (p + (i + tk.length - p) % tk.length) % tk.length = i := by
        rw [Nat.add_mod, Nat.mod_mod, ← Nat.add_mod, show p + (i + tk.length - p) = i + tk.length by omega, Nat.add_mod_right]
        exact Nat.mod_eq_of_lt hil
      rw [e, hi]
      rfl
    exact Option.isSome_iff_exists.1 hm
  obtain ⟨d, hd⟩ := hex
  have hf : far tk p = d := by unfold far; rw [hd]; rfl
  rw [hf]
  obtain ⟨h1, as, bs, h2, h3⟩ := List.find?_eq_some_iff_append.1 hd
  have hdl : as.length = d := by
    have h4 : (List.range tk.length)[as.length]? = some d := by rw [h2]; simp
    have h5 := List.getElem?_eq_some_iff.1 h4
    simpa using h5.2
  have hdlt : d < tk.length := by
    have h6 : d ∈ List.range tk.length := List.mem_of_find?_eq_some hd
    simpa using h6
  refine ⟨hdlt, by simpa using h1, fun j hj => ?_⟩
  have hjas : j ∈ as := by
    have h7 : (List.range tk.length)[j]? = some j := by rw [List.getElem?_range (by omega)]
    rw [h2, List.getElem?_append_left (by omega)] at h7
    exact List.mem_of_getElem? h7
  have h8 := h3 j hjas
  have hlt : (p + j) % tk.length < tk.length := Nat.mod_lt _ hn
  rw [List.getElem?_eq_getElem hlt] at h8 ⊢
  cases hv : tk[(p + j) % tk.length] <;> simp [hv] at h8 ⊢

theorem far_eq (tk : List Bool) (p d : Nat) (hp : p < tk.length) (_hd : d < tk.length) (h1 : tk[(p + d) % tk.length]? = some false) (h2 : ∀ j, j < d → tk[(p + j) % tk.length]? = some true) : far tk p = d := by
  obtain ⟨h3, h4, h5⟩ := far_spec tk p hp ⟨_, h1⟩
  rcases Nat.lt_trichotomy (far tk p) d with h | h | h
  · rw [h2 _ h] at h4; cases h4
  · exact h
  · rw [h5 _ h] at h1; cases h1

theorem fwd_free (tk : List Bool) (p : Nat) (hp : p < tk.length) (h : tk[p]? = some false) : fwd tk p = p := by
  have : far tk p = 0 := far_eq tk p 0 hp (by omega) (by rw [Nat.add_zero, Nat.mod_eq_of_lt hp]; exact h) (fun j hj => by omega)
  unfold fwd
  rw [this, Nat.add_zero, Nat.mod_eq_of_lt hp]

theorem fwd_taken (tk : List Bool) (p : Nat) (hp : p < tk.length) (h : tk[p]? = some true) (hex : ∃ i : Nat, tk[i]? = some false) :
    fwd tk ((p + 1) % tk.length) = fwd tk p ∧ far tk ((p + 1) % tk.length) < far tk p := by
  have hn : 0 < tk.length := by omega
  obtain ⟨h3, h4, h5⟩ := far_spec tk p hp hex
  have h0 : far tk p ≠ 0 := fun e => by
    rw [e, Nat.add_zero, Nat.mod_eq_of_lt hp, h] at h4
    cases h4
  have hmod : ∀ j, ((p + 1) % tk.length + j) % tk.length = (p + (j + 1)) % tk.length := fun j => by
    rw [Nat.mod_add_mod]; congr 1; omega
  have he : far tk ((p + 1) % tk.length) = far tk p - 1 := by
    refine far_eq _ _ _ (Nat.mod_lt _ hn) (by omega) ?_ fun j hj => ?_
    · rw [hmod, show far tk p - 1 + 1 = far tk p by omega]; exact h4
    · rw [hmod]; exact h5 _ (by omega)
  refine ⟨?_, by omega⟩
  unfold fwd
  rw [he, hmod, show far tk p - 1 + 1 = far tk p by omega]

theorem fwd_lt (tk : List Bool) (p : Nat) (hn : 0 < tk.length) : fwd tk p < tk.length := Nat.mod_lt _ hn

/-- what is taken, and the seed, after some draws -/
def dst (n : Nat) (s : Int) : Nat → List Bool × Int
  | 0 => (List.replicate n false, s)
  | k + 1 => ((dst n s k).1.set (fwd (dst n s k).1 (drawB (dst n s k).2 n).toNat) true, lcg (dst n s k).2)

theorem dst_len (n : Nat) (s : Int) (k : Nat) : (dst n s k).1.length = n := by
  induction k with
  | zero => simp [dst]
  | succ k ih => simp [dst, ih]

theorem dst_seed (n : Nat) (s : Int) (h0 : 0 ≤ s) (h1 : s < 4294967296) (k : Nat) : 0 ≤ (dst n s k).2 ∧ (dst n s k).2 < 4294967296 := by
  cases k with
  | zero => exact ⟨h0, h1⟩
  | succ k => exact lcg_bd _

theorem count_set_true (l : List Bool) : ∀ i, l[i]? = some false → (l.set i true).count true = l.count true + 1 := by
  induction l with
  | nil => intro i h; simp at h
  | cons a l ih =>
    intro i h
    cases i with
    | zero =>
      simp at h
      subst h
      simp
    | succ i =>
      simp at h
      simp only [List.set_cons_succ, List.count_cons, ih i h]
      omega

theorem count_free (l : List Bool) (h : l.count true < l.length) : ∃ i : Nat, l[i]? = some false := by
  induction l with
  | nil => simp at h
  | cons a l ih =>
    cases a with
    | false => exact ⟨0, rfl⟩
    | true =>
      simp at h
      obtain ⟨i, hi⟩ := ih h
      exact ⟨i + 1, by simpa using hi⟩

theorem dst_count (n : Nat) (hn : 1 ≤ n) (s : Int) (k : Nat) (hk : k ≤ n) : (dst n s k).1.count true = k := by
  induction k with
  | zero => simp [dst, List.count_replicate]
  | succ k ih =>
    have ih := ih (by omega)
    have hl := dst_len n s k
    have hb := drawB_bd (dst n s k).2 n (by omega)
    have hex := count_free (dst n s k).1 (by omega)
    have hp : (drawB (dst n s k).2 n).toNat < (dst n s k).1.length := by omega
    have hf : (dst n s k).1[fwd (dst n s k).1 (drawB (dst n s k).2 n).toNat]? = some false := (far_spec _ _ hp hex).2.1
    show ((dst n s k).1.set _ true).count true = k + 1
    rw [count_set_true _ _ hf, ih]

theorem dst_free (n : Nat) (hn : 1 ≤ n) (s : Int) (k : Nat) (hk : k < n) : ∃ i : Nat, (dst n s k).1[i]? = some false :=
  count_free _ (by rw [dst_count n hn s k (by omega), dst_len]; exact hk)

/-- how many places a drop has -/
def dropK (n s : Int) : Int := (n + drawB s n) / (drawB s n + 1)
theorem dropK_bd (n s : Int) (h : 1 ≤ n) : 1 ≤ dropK n s ∧ dropK n s ≤ n := by
  have hb := drawB_bd s n h
  unfold dropK
  constructor
  · rw [Int.le_ediv_iff_mul_le (by omega)]; omega
  · refine Int.lt_add_one_iff.1 ?_
    rw [Int.ediv_lt_iff_lt_mul (by omega), Int.add_mul, Int.one_mul]
    have : n * 1 ≤ n * (drawB s n + 1) := Int.mul_le_mul_of_nonneg_left (by omega) (by omega)
    have h2 : n * (drawB s n + 1) = n * drawB s n + n := by rw [Int.mul_add, Int.mul_one]
    have h3 : 0 ≤ n * drawB s n := Int.mul_nonneg (by omega) hb.1
    have h4 : drawB s n ≤ n * drawB s n := by
      have := Int.mul_le_mul_of_nonneg_right h hb.1
      omega
    omega
theorem dropK_lt (n s k : Int) (h : 1 ≤ n) : k * (drawB s n + 1) < n ↔ k < dropK n s := by
  have hb := drawB_bd s n h
  unfold dropK
  have e : k < (n + drawB s n) / (drawB s n + 1) ↔ (k + 1) * (drawB s n + 1) ≤ n + drawB s n := by
    rw [← Int.le_ediv_iff_mul_le (by omega)]; omega
  rw [e, Int.add_mul, Int.one_mul]
  omega

/-- the places at which a list is true, from k on -/
def trues (tk : List Bool) (k : Nat) : List Int := ((List.range k).filter fun i => tk.getD i false).map fun i : Nat => (i : Int)
theorem trues_zero (tk : List Bool) : trues tk 0 = [] := rfl
theorem trues_succ (tk : List Bool) (k : Nat) : trues tk (k + 1) = trues tk k ++ if tk.getD k false then [(k : Int)] else [] := by
  unfold trues
  rw [List.range_succ, List.filter_append, List.map_append]
  congr 1
  by_cases h : tk.getD k false = true
  · rw [if_pos h, List.filter_cons_of_pos (p := fun i => tk.getD i false) h]; rfl
  · rw [if_neg h, List.filter_cons_of_neg (p := fun i => tk.getD i false) h]; rfl
theorem trues_len (tk : List Bool) (k : Nat) : (trues tk k).length ≤ k := by
  unfold trues
  rw [List.length_map]
  have := List.length_filter_le (fun i => tk.getD i false) (List.range k)
  simpa using this
theorem trues_mem (tk : List Bool) (k : Nat) : ∀ x ∈ trues tk k, 0 ≤ x ∧ x < k := by
  intro x hx
  unfold trues at hx
  obtain ⟨i, hi, rfl⟩ := List.mem_map.1 hx
  have := (List.mem_filter.1 hi).1
  simp at this
  omega

/-- the places of a drop of n blocks, of a seed -/
def dropL (n s : Int) : List Int := trues (dst n.toNat (lcg s) (dropK n s).toNat).1 n.toNat
theorem dropL_len (n s : Int) : (dropL n s).length ≤ n.toNat := trues_len _ _
theorem dropL_mem (n s : Int) (h : 1 ≤ n) : ∀ x ∈ dropL n s, 0 ≤ x ∧ x < n := by
  intro x hx
  have := trues_mem _ _ x hx
  omega
theorem mod_succ_cast (q n : Nat) : (((q : Int) + 1) % (n : Int)).toNat = (q + 1) % n := by
  show ((((q + 1 : Nat) : Int)) % (n : Int)).toNat = (q + 1) % n
  rw [← Int.natCast_emod, Int.toNat_natCast]
end Go.Proofs.Ytlcnfaodkglhpaa
