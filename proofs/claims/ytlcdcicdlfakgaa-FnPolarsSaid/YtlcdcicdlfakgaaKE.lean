/-
  Plain: the places in the order of their keys; the first of them as a set.
  Conditions: none.
-/
import Derived.Test.YtlcdcicdlfakgaaSY
import Derived.Test.YtlcdcicdlfakgaaSO
import Derived.Sort.OwnSortedInts
namespace Go.Proofs.Ytlcdcicdlfakgaa
open Go.RowKit

def leK (key : Nat → Int) (i j : Nat) : Bool := decide (key i < key j ∨ key i = key j ∧ i ≤ j)
def ordL (key : Nat → Int) (n : Nat) : List Nat := (List.range n).mergeSort (leK key)
/-- the place's number in the order of keys -/
def ordOf (key : Nat → Int) (n i : Nat) : Nat := if i < n then (ordL key n).getD i 0 else i
theorem ordL_perm (key : Nat → Int) (n : Nat) : (ordL key n).Perm (List.range n) := List.mergeSort_perm _ _
theorem ordL_len (key : Nat → Int) (n : Nat) : (ordL key n).length = n := by rw [(ordL_perm key n).length_eq, List.length_range]
theorem ordOf_at (key : Nat → Int) {n i : Nat} (h : i < n) : ordOf key n i = (ordL key n)[i]'(by rw [ordL_len]; exact h) := by
  unfold ordOf
  rw [if_pos h, List.getD_eq_getElem?_getD, List.getElem?_eq_getElem (by rw [ordL_len]; exact h)]
  rfl
theorem ordL_sorted (key : Nat → Int) (n : Nat) : (ordL key n).Pairwise fun i j => leK key i j = true := by
  refine List.pairwise_mergeSort (le := leK key) ?_ ?_ _
  · intro a b c h1 h2
    simp only [leK, decide_eq_true_eq] at *
    omega
  · intro a b
    simp only [leK, Bool.or_eq_true, decide_eq_true_eq]
    omega
theorem ordL_nodup (key : Nat → Int) (n : Nat) : (ordL key n).Nodup := (ordL_perm key n).nodup_iff.2 List.nodup_range
theorem ordOf_srt (key : Nat → Int) (n : Nat) : Srt key (ordOf key n) 0 n := by
  intro i j _ hij hj
  have h1 := List.pairwise_iff_getElem.1 (ordL_sorted key n) i j (by rw [ordL_len]; omega) (by rw [ordL_len]; omega) hij
  have h2 := List.pairwise_iff_getElem.1 (ordL_nodup key n) i j (by rw [ordL_len]; omega) (by rw [ordL_len]; omega) hij
  rw [ordOf_at key (show i < n by omega), ordOf_at key hj]
  simp only [leK, decide_eq_true_eq] at h1
  unfold lo
  have h3 : (ordL key n)[i]'(by rw [ordL_len]; omega) ≠ (ordL key n)[j]'(by rw [ordL_len]; omega) := h2
  omega
theorem ordOf_shuf (key : Nat → Int) (n : Nat) : Shuf (fun i => i) (ordOf key n) 0 n := by
  refine ⟨fun i hi => by unfold ordOf; rw [if_neg (by omega)], fun v => ⟨?_, ?_⟩⟩
  · rintro ⟨i, i1, i2, i3⟩
    rw [ordOf_at key i2] at i3
    have h := (ordL_perm key n).mem_iff.1 (List.getElem_mem (show i < (ordL key n).length by rw [ordL_len]; exact i2))
    rw [i3, List.mem_range] at h
    exact ⟨v, Nat.zero_le _, h, rfl⟩
  · rintro ⟨i, i1, i2, i3⟩
    have h := (ordL_perm key n).mem_iff.2 (List.mem_range.2 (show v < n by rw [← i3]; exact i2))
    obtain ⟨j, j1, j2⟩ := List.getElem_of_mem h
    rw [ordL_len] at j1
    exact ⟨j, Nat.zero_le _, j1, by rw [ordOf_at key j1]; exact j2⟩
theorem ord_eq {key : Nat → Int} {n : Nat} {q : Nat → Nat} (hs : Srt key q 0 n) (hf : Shuf (fun i => i) q 0 n) {i : Nat} (hi : i < n) : q i = ordOf key n i :=
  srt_unique 0 n (by omega) (ordOf_srt key n) hs (fun v => (hf.img v).trans ((ordOf_shuf key n).img v).symm) i (Nat.zero_le _) hi

/-- a place is among the first k -/
def takenB (q : Nat → Nat) (k i : Nat) : Bool := (List.range k).any fun j => q j == i
theorem takenB_iff {q : Nat → Nat} {k i : Nat} : takenB q k i = true ↔ ∃ j, j < k ∧ q j = i := by
  unfold takenB
  simp [List.any_eq_true]
theorem takenB_succ (q : Nat → Nat) (k i : Nat) : takenB q (k + 1) i = (takenB q k i || q k == i) := by
  unfold takenB
  rw [List.range_succ, List.any_append]
  simp
def bestOf (key : Nat → Int) (n k : Nat) : List Nat := (List.range n).filter (takenB (ordOf key n) k)
/-- the least of those that are not taken -/
theorem best_is {key : Nat → Int} {n k m : Nat} (hk : k < n) (hm : m < n) (ht : takenB (ordOf key n) k m = false) (hl : ∀ j, j < n → takenB (ordOf key n) k j = false → ¬ lo key j m) : m = ordOf key n k := by
  have hs := ordOf_srt key n
  have hf := ordOf_shuf key n
  obtain ⟨a, _, a2, a3⟩ := (hf.img m).2 ⟨m, Nat.zero_le _, hm, rfl⟩
  obtain ⟨c, _, c2, c3⟩ := (hf.img (ordOf key n k)).1 ⟨k, Nat.zero_le _, hk, rfl⟩
  have hq : ordOf key n k < n := by rw [← c3]; exact c2
  have hnt : takenB (ordOf key n) k (ordOf key n k) = false := by
    rw [← Bool.not_eq_true, takenB_iff]
    rintro ⟨j, j1, j2⟩
    have h := hs j k (Nat.zero_le _) j1 hk
    rw [j2] at h
    exact lo_irr key _ h
  have hak : ¬ a < k := fun h => by
    have : takenB (ordOf key n) k m = true := takenB_iff.2 ⟨a, h, a3⟩
    rw [ht] at this
    cases this
  by_cases he : a = k
  · rw [← he]; exact a3.symm
  · have h := hs k a (Nat.zero_le _) (by omega) a2
    rw [a3] at h
    exact absurd h (hl _ hq hnt)
theorem some_left {key : Nat → Int} {n k : Nat} (hk : k < n) : ∃ m, m < n ∧ takenB (ordOf key n) k m = false := by
  have hs := ordOf_srt key n
  have hf := ordOf_shuf key n
  obtain ⟨c, _, c2, c3⟩ := (hf.img (ordOf key n k)).1 ⟨k, Nat.zero_le _, hk, rfl⟩
  have c3' : c = ordOf key n k := c3
  refine ⟨ordOf key n k, by omega, ?_⟩
  rw [← Bool.not_eq_true, takenB_iff]
  rintro ⟨j, j1, j2⟩
  have h := hs j k (Nat.zero_le _) j1 hk
  rw [j2] at h
  exact lo_irr key _ h


def sortL (l : List Int) : List Int := l.mergeSort fun x y => decide (x ≤ y)
theorem sortL_len (l : List Int) : (sortL l).length = l.length := List.length_mergeSort l
theorem sortL_perm (l : List Int) : (sortL l).Perm l := List.mergeSort_perm l _
theorem sortL_sorted (l : List Int) : (sortL l).Pairwise fun x y => x ≤ y := by
  have h := List.pairwise_mergeSort (le := fun x y : Int => decide (x ≤ y)) (by intro a b c; simp only [decide_eq_true_eq]; omega) (by intro a b; simp only [Bool.or_eq_true, decide_eq_true_eq]; omega) l
  exact h.imp fun h => by simpa using h
theorem sort_eq {l m : List Int} (hp : l.Perm m) (hm : m.Pairwise fun x y => x < y) : sortL l = m := by
  refine ((sortL_perm l).trans hp).eq_of_pairwise (le := fun x y : Int => x ≤ y) ?_ (sortL_sorted l) (hm.imp Int.le_of_lt)
  intro a b _ _ h1 h2
  omega
theorem first_sorted {key : Nat → Int} {n k : Nat} {q : Nat → Nat} (hk : k ≤ n) (hs : Srt key q 0 n) (hf : Shuf (fun i => i) q 0 n) :
    sortL ((List.range k).map fun i => ((q i : Nat) : Int)) = (bestOf key n k).map fun i => ((i : Nat) : Int) := by
  have hq : ∀ i, i < k → q i = ordOf key n i := fun i hi => ord_eq hs hf (by omega)
  have e : ((List.range k).map fun i => ((q i : Nat) : Int)) = ((List.range k).map (ordOf key n)).map fun i => ((i : Nat) : Int) := by
    rw [List.map_map]
    refine List.map_congr_left fun i hi => ?_
    show ((q i : Nat) : Int) = _
    rw [hq i (List.mem_range.1 hi)]
    rfl
  rw [e]
  refine sort_eq (List.Perm.map _ ?_) ?_
  · refine (List.perm_ext_iff_of_nodup ?_ ?_).2 fun a => ?_
    · rw [List.nodup_iff_pairwise_ne, List.pairwise_map]
      refine List.pairwise_lt_range.imp_of_mem ?_
      intro a b ha hb hab he
      have h := ordOf_srt key n a b (Nat.zero_le _) hab (by have := List.mem_range.1 hb; omega)
      rw [he] at h
      exact lo_irr key _ h
    · exact List.nodup_range.filter _
    · unfold bestOf
      rw [List.mem_map, List.mem_filter, takenB_iff]
      constructor
      · rintro ⟨j, j1, j2⟩
        rw [List.mem_range] at j1
        obtain ⟨c, _, c2, c3⟩ := ((ordOf_shuf key n).img (ordOf key n j)).1 ⟨j, Nat.zero_le _, by omega, rfl⟩
        have c3' : c = ordOf key n j := c3
        exact ⟨List.mem_range.2 (by omega), j, j1, j2⟩
      · rintro ⟨_, j, j1, j2⟩
        exact ⟨j, List.mem_range.2 j1, j2⟩
  · rw [List.pairwise_map]
    refine (List.Pairwise.filter _ List.pairwise_lt_range).imp ?_
    intro a b h
    omega
theorem bestOf_len {key : Nat → Int} {n k : Nat} (hk : k ≤ n) : (bestOf key n k).length = k := by
  have h := first_sorted hk (ordOf_srt key n) (ordOf_shuf key n)
  have h2 := congrArg List.length h
  rw [sortL_len] at h2
  simpa using h2.symm

end Go.Proofs.Ytlcdcicdlfakgaa
