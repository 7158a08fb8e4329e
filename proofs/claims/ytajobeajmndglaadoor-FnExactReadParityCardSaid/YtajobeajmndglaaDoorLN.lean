/-
  Plain: pieces of a text between marks, as strings.Split has them and as a cut has them.
  Conditions: none.
-/
import Derived.Lib.Split
import Derived.Lib.SplitLaws
import Derived.Lib.IndexLaws
import Derived.Lib.IndexBytes
namespace Go.Proofs.YtajobeajmndglaaDoor
open Go

/-- the pieces between marks -/
def cutL (c : UInt8) : List UInt8 → List (List UInt8)
  | [] => [[]]
  | b :: l => if b = c then [] :: cutL c l else (b :: (cutL c l).headD []) :: (cutL c l).tail
theorem cutL_no {c : UInt8} : ∀ {l : List UInt8}, (∀ b ∈ l, b ≠ c) → cutL c l = [l]
  | [], _ => rfl
  | b :: l, h => by
    have h1 := cutL_no (l := l) (fun x hx => h x (List.mem_cons_of_mem _ hx))
    rw [cutL, if_neg (h b List.mem_cons_self), h1]
    rfl
theorem cutL_app {c : UInt8} : ∀ {pre post : List UInt8}, (∀ b ∈ pre, b ≠ c) → cutL c (pre ++ c :: post) = pre :: cutL c post
  | [], post, _ => by simp [cutL]
  | b :: pre, post, h => by
    have h1 := cutL_app (pre := pre) (post := post) (fun x hx => h x (List.mem_cons_of_mem _ hx))
    rw [List.cons_append, cutL, if_neg (h b List.mem_cons_self), h1]
    rfl
theorem index_cases1 (c : UInt8) (l : List UInt8) : Lib.index l [c] = -1 ∨ ∃ i : Nat, Lib.index l [c] = i := by
  rw [Lib.index_one]
  have := Lib.indexByte_ge l c
  rcases Int.lt_or_le (Lib.indexByte l c) 0 with h | h
  · exact .inl (by omega)
  · exact .inr ⟨(Lib.indexByte l c).toNat, by omega⟩
theorem index_pos {c : UInt8} {l : List UInt8} {i : Nat} (h : Lib.index l [c] = i) : l = l.take i ++ c :: l.drop (i + 1) ∧ ∀ b ∈ l.take i, b ≠ c := by
  rw [Lib.index_one] at h
  obtain ⟨h1, h2⟩ := Lib.indexByte_some h
  have hi : i < l.length := by
    rcases Nat.lt_or_ge i l.length with hh | hh
    · exact hh
    · rw [List.getElem?_eq_none hh] at h1; cases h1
  have h3 : l[i] = c := by rw [List.getElem?_eq_getElem hi] at h1; exact Option.some.inj h1
  refine ⟨?_, ?_⟩
  · rw [← h3, ← List.drop_eq_getElem_cons hi, List.take_append_drop]
  · intro b hb he
    obtain ⟨k, hk, rfl⟩ := List.mem_iff_getElem.1 hb
    rw [List.length_take] at hk
    apply h2 k (by omega)
    rw [List.getElem_take] at he
    rw [List.getElem?_eq_getElem (by omega), he]
theorem index_neg {c : UInt8} {l : List UInt8} (h : Lib.index l [c] = -1) : ∀ b ∈ l, b ≠ c := by
  rw [Lib.index_one] at h
  intro b hb he
  obtain ⟨k, hk, rfl⟩ := List.mem_iff_getElem.1 hb
  exact Lib.indexByte_none h k (by rw [List.getElem?_eq_getElem hk, he])
theorem splitK_cut (c : UInt8) : ∀ (k : Nat) (l : List UInt8), Lib.count l [c] = k → Lib.splitK [c] 0 k l = cutL c l := by
  intro k
  induction k with
  | zero =>
    intro l h
    rcases index_cases1 c l with hi | ⟨i, hi⟩
    · rw [cutL_no (index_neg hi)]; rfl
    · rw [Lib.count_hit (by simp) hi] at h
      omega
  | succ k ih =>
    intro l h
    rcases index_cases1 c l with hi | ⟨i, hi⟩
    · rw [Lib.count_miss hi] at h
      omega
    · rw [Lib.count_hit (by simp) hi] at h
      obtain ⟨h1, h2⟩ := index_pos hi
      have h3 := ih (l.drop (i + 1)) (by simp at h; omega)
      unfold Lib.splitK
      rw [hi, if_neg (by simp)]
      show List.take ((i : Int).toNat) l :: Lib.splitK [c] 0 k (List.drop ((i : Int).toNat + 1) l) = cutL c l
      rw [Int.toNat_natCast, h3]
      conv => rhs; rw [h1]
      rw [cutL_app h2]
theorem cutL_ne (c : UInt8) (l : List UInt8) : cutL c l ≠ [] := by
  cases l with
  | nil => simp [cutL]
  | cons b l => rw [cutL]; split <;> simp
theorem cutL_len (c : UInt8) : ∀ (l : List UInt8), (cutL c l).length ≤ l.length + 1
  | [] => by simp [cutL]
  | b :: l => by
    have h1 := cutL_len c l
    rw [cutL]
    split
    · simp; omega
    · simp; omega
theorem cut_step {c : UInt8} {L : List UInt8} {f i : Nat} (hf : f ≤ i) (hi : i < L.length) (h : ∀ k, f ≤ k → k < i → L[k]? ≠ some c) (hc : L[i]? = some c) : cutL c (L.drop f) = (L.take i).drop f :: cutL c (L.drop (i + 1)) := by
  have e : L.drop f = (L.take i).drop f ++ c :: L.drop (i + 1) := by
    have e1 : L[i] = c := by rw [List.getElem?_eq_getElem hi] at hc; exact Option.some.inj hc
    have e2 : L = L.take i ++ c :: L.drop (i + 1) := by rw [← e1, ← List.drop_eq_getElem_cons hi, List.take_append_drop]
    conv => lhs; rw [e2]
    rw [List.drop_append_of_le_length (by rw [List.length_take]; omega)]
  rw [e]
  apply cutL_app
  intro b hb he
  obtain ⟨k, hk, rfl⟩ := List.mem_iff_getElem.1 hb
  rw [List.length_drop, List.length_take] at hk
  apply h (f + k) (by omega) (by omega)
  rw [List.getElem_drop, List.getElem_take] at he
  rw [List.getElem?_eq_getElem (by omega), he]
theorem cut_last {c : UInt8} {L : List UInt8} {f : Nat} (h : ∀ k, f ≤ k → k < L.length → L[k]? ≠ some c) : cutL c (L.drop f) = [L.drop f] := by
  apply cutL_no
  intro b hb he
  obtain ⟨k, hk, rfl⟩ := List.mem_iff_getElem.1 hb
  rw [List.length_drop] at hk
  apply h (f + k) (by omega) (by omega)
  rw [List.getElem_drop] at he
  rw [List.getElem?_eq_getElem (by omega), he]
end Go.Proofs.YtajobeajmndglaaDoor
