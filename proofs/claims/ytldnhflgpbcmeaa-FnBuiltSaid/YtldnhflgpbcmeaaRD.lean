/-
  Plain: the words of a code near to a word, sorted: one by one put into a sorted list, or filtered of the sorted ones.
  Conditions: none.
-/
import Derived.Test.YtldnhflgpbcmeaaQB
namespace Go.Proofs.Ytldnhflgpbcmeaa
open Go.RowKit

/-- is a word of the code near -/
def nearB (word far x : Int) : Bool := decide (wt (xorI x word) ≤ far)
def okL (m : Int) (xs : List Int) (word far : Int) : Bool := (validParB m xs && inB word 0 (2 ^ m.toNat - 1)) && inB far 0 16
def listV (m : Int) (xs : List Int) (word far : Int) : List Int := if okL m xs word far then (sortL (codeL xs)).filter (nearB word far) else []

theorem sortL_sorted (l : List Int) : (sortL l).Pairwise (fun a b => a ≤ b) := by
  have h := List.pairwise_mergeSort (le := fun x y : Int => decide (x ≤ y)) (by intro a b c h1 h2; simp at h1 h2 ⊢; omega) (by intro a b; simp; omega) l
  exact h.imp (by intro a b h; simpa using h)
theorem sorted_eq {a b : List Int} (hp : a.Perm b) (ha : a.Pairwise (fun x y => x ≤ y)) (hb : b.Pairwise (fun x y => x ≤ y)) : a = b :=
  List.Perm.eq_of_pairwise (fun _ _ _ _ h1 h2 => Int.le_antisymm h1 h2) ha hb hp
theorem sortL_filter (p : Int → Bool) (l : List Int) : sortL (l.filter p) = (sortL l).filter p :=
  sorted_eq ((sortL_perm _).trans ((sortL_perm l).filter p).symm) (sortL_sorted _) ((sortL_sorted l).filter p)

/-- a number within a list -/
def putL (S : List Int) (x : Int) (k : Nat) : List Int := S.take k ++ x :: S.drop k
theorem putL_len {S : List Int} {x : Int} {k : Nat} (hk : k ≤ S.length) : (putL S x k).length = S.length + 1 := by simp [putL]; omega
theorem putL_end (S : List Int) (x : Int) : putL S x S.length = S ++ [x] := by simp [putL]
theorem putL_at {S : List Int} {x : Int} {k : Nat} (hk : k ≤ S.length) : (putL S x k).getD k 0 = x := by
  simp [putL, List.getD, Nat.min_eq_left hk]
theorem putL_low {S : List Int} {x : Int} {k j : Nat} (hk : k ≤ S.length) (hj : j < k) : (putL S x k).getD j 0 = S.getD j 0 := by
  simp [putL, List.getD, List.getElem?_append, Nat.min_eq_left hk, hj, show j < S.length by omega]
theorem putL_swap {S : List Int} {x : Int} {k : Nat} (hk : k < S.length) : ((putL S x (k + 1)).set (k + 1) (S.getD k 0)).set k x = putL S x k := by
  apply List.ext_getElem?
  intro i
  simp only [putL, List.getElem?_set, List.getElem?_append, List.length_set, List.length_append, List.length_take, List.length_cons, List.length_drop, List.getElem?_take, List.getElem?_cons, List.getElem?_drop, List.getD]
  have e1 : min (k + 1) S.length = k + 1 := by omega
  have e2 : min k S.length = k := by omega
  rw [e1, e2]
  by_cases h1 : k = i
  · subst h1
    simp
    omega
  · by_cases h2 : k + 1 = i
    · subst h2
      simp [hk]
      intro h
      omega
    · by_cases h3 : i < k
      · simp [h1, h2, h3, show i < k + 1 by omega]
      · have h4 : ¬ i < k + 1 := by omega
        simp [h1, h2, h3, h4]
        rw [if_neg (by omega), if_neg (by omega)]
        congr 1
        omega
theorem putL_perm (S : List Int) (x : Int) (k : Nat) : (putL S x k).Perm (S ++ [x]) := by
  have h1 : (putL S x k).Perm (x :: (S.take k ++ S.drop k)) := List.perm_middle
  rw [List.take_append_drop] at h1
  exact h1.trans (List.perm_append_singleton x S).symm
theorem putL_sorted {S : List Int} {x : Int} {k : Nat} (hk : k ≤ S.length) (hS : S.Pairwise (fun a b => a ≤ b)) (hhi : ∀ y ∈ S.drop k, x ≤ y) (hlo : k = 0 ∨ S.getD (k - 1) 0 ≤ x) : (putL S x k).Pairwise (fun a b => a ≤ b) := by
  unfold putL
  have hS2 := hS
  rw [← List.take_append_drop k S, List.pairwise_append] at hS2
  obtain ⟨s1, s2, s3⟩ := hS2
  have hlow : ∀ a ∈ S.take k, a ≤ x := by
    intro a ha
    obtain ⟨i, hi, rfl⟩ := List.mem_iff_getElem.1 ha
    rw [List.length_take] at hi
    rcases hlo with h | h
    · omega
    · have h1 : k - 1 < S.length := by omega
      rw [List.getElem_take]
      simp only [List.getD, List.getElem?_eq_getElem h1, Option.getD_some] at h
      by_cases hik : i = k - 1
      · subst hik
        exact h
      · exact Int.le_trans (List.pairwise_iff_getElem.1 hS i (k - 1) (by omega) h1 (by omega)) h
  rw [List.pairwise_append, List.pairwise_cons]
  refine ⟨s1, ⟨hhi, s2⟩, ?_⟩
  intro a ha b hb
  rcases List.mem_cons.1 hb with rfl | hb
  · exact hlow a ha
  · exact s3 a ha b hb
theorem putL_done {S T : List Int} {x : Int} {k : Nat} (hST : S = sortL T) (hk : k ≤ S.length) (hhi : ∀ y ∈ S.drop k, x ≤ y) (hlo : k = 0 ∨ S.getD (k - 1) 0 ≤ x) : putL S x k = sortL (T ++ [x]) := by
  refine sorted_eq ?_ (putL_sorted hk (by rw [hST]; exact sortL_sorted T) hhi hlo) (sortL_sorted _)
  refine (putL_perm S x k).trans (List.Perm.trans ?_ (sortL_perm (T ++ [x])).symm)
  rw [hST]
  exact (sortL_perm T).append_right [x]
/-- the numbers behind one that lies lower -/
theorem drop_hi {S : List Int} {x : Int} {k : Nat} (hk : k < S.length) (h : ∀ y ∈ S.drop (k + 1), x ≤ y) (hx : x < S.getD k 0) : ∀ y ∈ S.drop k, x ≤ y := by
  intro y hy
  rw [List.drop_eq_getElem_cons hk] at hy
  rcases List.mem_cons.1 hy with rfl | hy
  · simp only [List.getD, List.getElem?_eq_getElem hk, Option.getD_some] at hx
    omega
  · exact h y hy
/-- the words so far, filtered -/
def keepL (xs : List Int) (word far : Int) (i : Nat) : List Int := (xs.take i).filter (nearB word far)
theorem keepL_skip {xs : List Int} {word far : Int} {i : Nat} (hi : i < xs.length) (h : nearB word far (xs.getD i 0) = false) : keepL xs word far (i + 1) = keepL xs word far i := by
  unfold keepL
  simp only [List.getD, List.getElem?_eq_getElem hi, Option.getD_some] at h
  rw [List.take_succ_eq_append_getElem hi, List.filter_append]
  simp [h]
theorem keepL_take {xs : List Int} {word far : Int} {i : Nat} (hi : i < xs.length) (h : nearB word far (xs.getD i 0) = true) : keepL xs word far (i + 1) = keepL xs word far i ++ [xs.getD i 0] := by
  unfold keepL
  simp only [List.getD, List.getElem?_eq_getElem hi, Option.getD_some] at h ⊢
  rw [List.take_succ_eq_append_getElem hi, List.filter_append]
  simp [h]
theorem keepL_all (xs : List Int) (word far : Int) : keepL xs word far xs.length = xs.filter (nearB word far) := by unfold keepL; rw [List.take_length]
theorem keepL_len (xs : List Int) (word far : Int) (i : Nat) : (keepL xs word far i).length ≤ xs.length := Nat.le_trans (List.length_filter_le _ _) (by rw [List.length_take]; omega)

end Go.Proofs.Ytldnhflgpbcmeaa
