/-
  Plain: reading from the front, by places.
  Conditions: none.
-/
import Derived.Test.YtmkjlhobnlgpjaaTR
namespace Go.Proofs.Ytmkjlhobnlgpjaa
open Go.RowKit

theorem extr2 (s : ByteArray) (p a b : Nat) : (s.extract p s.size).extract a b = s.extract (p + a) (min (p + b) s.size) := by
  apply ByteArray.ext
  simp [ByteArray.data_extract, Array.extract_extract]
theorem extr_cap (s : ByteArray) (a b : Nat) (h : b ≤ s.size) : s.extract a (min b s.size) = s.extract a b := by rw [Nat.min_eq_left h]
/-- what is left from place p on, or that p lies past the end -/
def Rd (s : ByteArray) (p : Nat) (r : ByteArray) (b : Bool) : Prop := r.size ≤ s.size ∧ (b = false → p ≤ s.size ∧ r = s.extract p s.size) ∧ (b = true → ¬ p ≤ s.size)
theorem Rd.zero (s : ByteArray) : Rd s 0 s false := ⟨Nat.le_refl _, fun _ => ⟨Nat.zero_le _, by simp⟩, fun h => by cases h⟩
theorem Rd.left {s : ByteArray} {p : Nat} {r : ByteArray} (h : Rd s p r false) : r.size = s.size - p := by
  obtain ⟨h1, h2⟩ := h.2.1 rfl
  rw [h2]
  simp [ByteArray.size_extract]
theorem Rd.step {s : ByteArray} {p : Nat} {r : ByteArray} {b : Bool} (h : Rd s p r b) (n : Nat) : Rd s (p + n) (takeF r b n).2.1 (takeF r b n).2.2 ∧ (takeF r b n).1.size = n ∧ ((takeF r b n).2.2 = false → b = false ∧ (takeF r b n).1 = s.extract p (p + n)) := by
  have hz := takeF_left r b n
  refine ⟨⟨Nat.le_trans hz h.1, ?_, ?_⟩, takeF_size r b n, ?_⟩ <;> cases hb : b <;> subst hb
  · by_cases hn : n ≤ r.size
    · rw [takeF_yes hn]
      intro _
      have hl := h.left
      obtain ⟨h1, h2⟩ := h.2.1 rfl
      refine ⟨by omega, ?_⟩
      show r.extract n r.size = _
      conv => lhs; rw [h2]
      rw [extr2]
      have : min (p + (s.extract p s.size).size) s.size = s.size := by simp [ByteArray.size_extract]; omega
      rw [this]
    · rw [takeF_no hn]
      intro h; cases h
  · rw [takeF_bad]
    intro h; cases h
  · by_cases hn : n ≤ r.size
    · rw [takeF_yes hn]
      intro h; cases h
    · have hl := h.left
      have := (h.2.1 rfl).1
      intro _
      omega
  · intro _
    have := h.2.2 rfl
    omega
  · by_cases hn : n ≤ r.size
    · rw [takeF_yes hn]
      intro _
      have hl := h.left
      obtain ⟨h1, h2⟩ := h.2.1 rfl
      refine ⟨rfl, ?_⟩
      show r.extract 0 n = _
      rw [h2, extr2, Nat.add_zero, extr_cap _ _ _ (by omega)]
    · rw [takeF_no hn]
      intro h; cases h
  · rw [takeF_bad]
    intro h; cases h
theorem nB_zeros (n i : Nat) : nB (zerosS n) i = 0 := by
  unfold nB zerosS
  show ((Lib.repeatL [0] n).getD i 0).toNat = 0
  rw [List.getD_eq_getElem?_getD]
  cases h : (Lib.repeatL [(0 : UInt8)] n)[i]? with
  | none => rfl
  | some u =>
    have hm := List.mem_of_getElem? h
    have : u = 0 := by
      clear h
      induction n with
      | zero => simp [Lib.repeatL] at hm
      | succ n ih => 
        simp [Lib.repeatL] at hm ih
        rcases hm with h | h
        · exact h
        · exact ih h
    rw [this]
    rfl
theorem nB_past {s : ByteArray} {i : Nat} (h : s.size ≤ i) : nB s i = 0 := by
  unfold nB
  rw [List.getD_eq_getElem?_getD, List.getElem?_eq_none (by rw [Array.length_toList]; exact h)]
  rfl
theorem Rd.byte {s : ByteArray} {p : Nat} {r : ByteArray} {b : Bool} (h : Rd s p r b) : nB (takeF r b 1).1 0 = nB s p := by
  cases hb : b
  · subst hb
    have hl := h.left
    by_cases hn : 1 ≤ r.size
    · have h2 := (h.step 1).2.2 (by rw [takeF_yes hn])
      rw [h2.2, nB_extract (by simp [ByteArray.size_extract]; omega)]
      rfl
    · rw [takeF_no hn]
      have := (h.2.1 rfl).1
      rw [nB_past (s := s) (by omega)]
      exact nB_zeros 1 0
  · subst hb
    rw [takeF_bad]
    have := h.2.2 rfl
    rw [nB_past (s := s) (by omega)]
    exact nB_zeros 1 0
theorem bitsP_move {s : ByteArray} {f n e : Nat} (he : f + (n + 7) / 8 = e) (hs : e ≤ s.size) : bitsP (s.extract f e) 0 n = bitsP s f n := by
  unfold bitsP
  apply List.map_congr_left
  intro i hi
  have hi2 : i < n := List.mem_range.1 hi
  rw [Nat.zero_add, nB_extract (by simp [ByteArray.size_extract]; omega)]
theorem w4_move {s : ByteArray} {p : Nat} (hs : p + 4 ≤ s.size) : w4 (s.extract p (p + 4)) 0 = w4 s p := by
  have hz : (s.extract p (p + 4)).size = 4 := by simp [ByteArray.size_extract]; omega
  unfold w4
  rw [nB_extract (by omega), nB_extract (by omega), nB_extract (by omega), nB_extract (by omega)]
  rfl
theorem pre_iff {s t : ByteArray} {N : Nat} (ht : t.size = N) : Lib.hasPrefix s.data.toList t.data.toList = (decide (N ≤ s.size) && decide (t = s.extract 0 N)) := by
  subst ht
  rw [Bool.eq_iff_iff]
  simp only [Lib.hasPrefix, List.isPrefixOf_iff_prefix, Bool.and_eq_true, decide_eq_true_eq]
  constructor
  · intro h
    have h1 := h.length_le
    rw [Array.length_toList, Array.length_toList] at h1
    refine ⟨h1, ?_⟩
    apply ByteArray.ext
    apply Array.toList_inj.1
    rw [extr_list', List.drop_zero]
    have h2 := List.prefix_iff_eq_take.1 h
    rw [Array.length_toList] at h2
    exact h2
  · rintro ⟨h1, h2⟩
    rw [h2, extr_list', List.drop_zero]
    exact List.take_prefix _ _
theorem stS_len {nm : ByteArray} {bs : List Bool} {xs : List Nat} : (storeS nm bs xs).size = nm.size + 9 + (bs.length + 7) / 8 + 4 * xs.length := by
  unfold storeS
  rw [strOfNums_size]
  have h4 := headL_len nm bs xs
  simp [storeN, chN] at h4 ⊢
  omega

end Go.Proofs.Ytmkjlhobnlgpjaa
