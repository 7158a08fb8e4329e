/-
  Plain: what is sent at the best places and read there.
  Conditions: none.
-/
import Derived.Test.YtlcdcicdlfakgaaKL
namespace Go.Proofs.Ytlcdcicdlfakgaa
open Go.RowKit

def zl (S : List Nat) : List Int := S.map fun i => ((i : Nat) : Int)
theorem zl_len (S : List Nat) : (zl S).length = S.length := by simp [zl]
theorem bestOf_pair (key : Nat → Int) (n k : Nat) : (bestOf key n k).Pairwise (· < ·) := List.Pairwise.filter _ List.pairwise_lt_range
theorem bestOf_lt {key : Nat → Int} {n k i : Nat} (h : i ∈ bestOf key n k) : i < n := by
  unfold bestOf at h
  rw [List.mem_filter, List.mem_range] at h
  exact h.1
theorem zl_getD {S : List Nat} {i : Nat} (h : i < S.length) : (zl S).getD i 0 = ((S[i] : Nat) : Int) := by
  simp [zl, List.getD_eq_getElem?_getD, h]
theorem places_of {S : List Nat} {P : Nat} (hP : P ≤ 5) (hp : S.Pairwise (· < ·)) (hl : ∀ i ∈ S, i < 2 ^ P) : placesB (P : Int) (zl S) = true := by
  unfold placesB
  rw [Bool.and_eq_true]
  refine ⟨inB_true.2 (by omega), setB_true fun i hi => ?_⟩
  rw [zl_len] at hi
  unfold setAt
  rw [zl_getD hi, Bool.and_eq_true]
  refine ⟨inB_true.2 ?_, ?_⟩
  · have := hl _ (List.getElem_mem hi)
    have e : (2 : Int) ^ (P : Int).toNat = ((2 ^ P : Nat) : Int) := by simp
    rw [e]
    omega
  · by_cases h0 : i = 0
    · subst h0; rfl
    · rw [zl_getD (show i - 1 < S.length by omega)]
      have := List.pairwise_iff_getElem.1 hp (i - 1) i (by omega) hi (by omega)
      have h1 : (((S[i - 1]'(by omega)) : Nat) : Int) < ((S[i] : Nat) : Int) := by omega
      rw [decide_eq_true h1, Bool.or_true]
theorem sendR_facts {N : Nat} {S : List Nat} {bs : List Bool} (hp : S.Pairwise (· < ·)) (hl : ∀ i ∈ S, i < N) : ∀ k, k ≤ S.length →
    (∀ i (hi : i < S.length), i < k → fun_ (sendR N (zl S) bs k) S[i] = bs.getD i false) ∧ (∀ t, (∀ i (hi : i < S.length), i < k → S[i] ≠ t) → fun_ (sendR N (zl S) bs k) t = false) := by
  intro k
  induction k with
  | zero =>
    intro _
    refine ⟨fun i _ h => by omega, fun t _ => ?_⟩
    unfold sendR fun_
    simp [List.getD_eq_getElem?_getD, List.getElem?_replicate]
    split <;> rfl
  | succ k ih =>
    intro hk
    obtain ⟨ih1, ih2⟩ := ih (by omega)
    have hkl : k < S.length := by omega
    have e : sendR N (zl S) bs (k + 1) = (sendR N (zl S) bs k).set S[k] (bs.getD k false) := by
      rw [sendR, zl_getD hkl, Int.toNat_natCast]
    have hlt : S[k] < (sendR N (zl S) bs k).length := by rw [sendR_len]; exact hl _ (List.getElem_mem hkl)
    refine ⟨fun i hi hik => ?_, fun t ht => ?_⟩
    · rw [e, fun_set _ _ hlt]
      by_cases h : i = k
      · subst h; rw [if_pos rfl]
      · have := List.pairwise_iff_getElem.1 hp i k hi hkl (by omega)
        rw [if_neg (by omega)]
        exact ih1 i hi (by omega)
    · rw [e, fun_set _ _ hlt, if_neg (fun h => ht k hkl (by omega) h.symm)]
      exact ih2 t fun i hi hik => ht i hi (by omega)
/-- the bits that are sent at places -/
def sentU (N : Nat) (S : List Nat) (bs : List Bool) : Nat → Bool := fun_ (sendR N (zl S) bs S.length)
theorem sentU_in {N : Nat} {S : List Nat} {bs : List Bool} (hp : S.Pairwise (· < ·)) (hl : ∀ i ∈ S, i < N) (k : Nat) (h : sentU N S bs k = true) : (k : Int) ∈ zl S := by
  refine Classical.byContradiction fun hn => ?_
  have := (sendR_facts (bs := bs) hp hl S.length (Nat.le_refl _)).2 k (fun i hi _ he => hn ?_)
  · unfold sentU at h
    rw [this] at h
    cases h
  · rw [← he]
    exact List.mem_map.2 ⟨S[i], List.getElem_mem hi, rfl⟩
theorem reads_best {key : Nat → Int} {N k : Nat} {bs : List Bool} (hb : bs.length = (bestOf key N k).length) : readsOf (sentU N (bestOf key N k) bs) (zl (bestOf key N k)) 0 N = bs := by
  have e : ((List.range N).filter fun i => isPl (zl (bestOf key N k)) (0 + i)) = bestOf key N k := by
    show _ = (List.range N).filter _
    refine List.filter_congr fun i hi => ?_
    rw [Nat.zero_add, Bool.eq_iff_iff]
    unfold isPl
    rw [decide_eq_true_eq]
    constructor
    · intro h
      obtain ⟨x, hx, he⟩ := List.mem_map.1 h
      have : x = i := by omega
      subst this
      unfold bestOf at hx
      exact (List.mem_filter.1 hx).2
    · intro h
      exact List.mem_map.2 ⟨i, List.mem_filter.2 ⟨hi, h⟩, rfl⟩
  unfold readsOf
  rw [e]
  apply List.ext_getElem (by rw [List.length_map]; exact hb.symm)
  intro i h1 h2
  rw [List.getElem_map, Nat.zero_add]
  have hi : i < (bestOf key N k).length := by simpa using h1
  have := (sendR_facts (N := N) (bs := bs) (bestOf_pair key N k) (fun i hi => bestOf_lt hi) _ (Nat.le_refl _)).1 i hi hi
  unfold sentU
  rw [this, List.getD_eq_getElem?_getD, List.getElem?_eq_getElem h2]
  rfl
theorem best_le {key : Nat → Int} {n k p i : Nat} (hp : p ∈ bestOf key n k) (hi : i < n) (hni : i ∉ bestOf key n k) : key p ≤ key i := by
  unfold bestOf at hp hni
  rw [List.mem_filter, List.mem_range] at hp hni
  obtain ⟨j, j1, j2⟩ := takenB_iff.1 hp.2
  obtain ⟨m, _, m2, m3⟩ := ((ordOf_shuf key n).img i).2 ⟨i, Nat.zero_le _, hi, rfl⟩
  have hm : k ≤ m := Nat.le_of_not_lt fun h => hni ⟨hi, takenB_iff.2 ⟨m, h, m3⟩⟩
  have := ordOf_srt key n j m (Nat.zero_le _) (by omega) m2
  rw [j2, m3] at this
  unfold lo at this
  omega
/-- what polarTurn makes of the bits sent -/
theorem sent_enc {P : Nat} (hP : P ≤ 5) (S : List Nat) (bs : List Bool) : fun_ (turnL (sendR (2 ^ P) (zl S) bs S.length)) = enc (sentU (2 ^ P) S bs) P := turn_fun hP (sendR_len _ _ _ _)

end Go.Proofs.Ytlcdcicdlfakgaa
