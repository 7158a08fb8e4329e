/-
  Plain: bounded codes: packs of letters round by round; their numbers; both ways to count.
  Conditions: 2 to 16 letters, 1 to 16 as the bound.
-/
import Derived.Test.YtkmfjadlobpbkaaBA
import Derived.Test.YtkmfjadlobpbkaaML
namespace Go.Proofs.Ytkmfjadlobpbkaa
open Go.RowKit

def bStart (ws : List Int) : List Tr := sortL (soloP ws)
/-- the packs behind k rounds -/
def bRun (ws : List Int) : Nat → List Tr
  | 0 => bStart ws
  | k + 1 => mergeL (bStart ws) (pairL (· ++ ·) (bRun ws k))
/-- all letters of packs, each adds one -/
def bLong (n : Nat) (P : List Tr) : List Int := P.foldl (fun l t => addL l t.2) (List.replicate n 0)
def boundedL (ws : List Int) (most : Int) : List Int := if ws.length = 1 then [1] else bLong ws.length ((bRun ws (most.toNat - 1)).take (2 * ws.length - 2))
def boundOk (ws : List Int) (most : Int) : Bool := weightsB ws && inB most 1 16 && decide (ws.length ≤ 2 ^ most.toNat)
def boundedV (ws : List Int) (most : Int) : List Int × Bool := if boundOk ws most && (ws.length == 1 || codeB (boundedL ws most)) then (boundedL ws most, true) else ([], false)

/-- how many packs there are -/
def lenK (n : Nat) : Nat → Nat
  | 0 => n
  | k + 1 => n + lenK n k / 2
theorem lenK_all : ∀ n, n < 17 → ∀ k, k < 16 → lenK n k ≤ 31 ∧ (n ≤ 2 ^ (k + 1) → 2 * n - 2 ≤ lenK n k) := by decide +kernel
theorem soloP_len (ws : List Int) : (soloP ws).length = ws.length := by simp [soloP]
theorem mergeL_len {α : Type} : ∀ (b a : List (Int × α)), (mergeL a b).length = a.length + b.length
  | [], a => by cases a <;> simp [mergeL]
  | x :: b, a => by
    rw [mergeL, List.length_append, List.length_cons, mergeL_len b, List.length_cons]
    have h : (a.takeWhile (fun y => decide (y.1 ≤ x.1)) ++ a.dropWhile (fun y => decide (y.1 ≤ x.1))).length = a.length := by rw [List.takeWhile_append_dropWhile]
    rw [List.length_append] at h
    omega
theorem mergeL_mem {α : Type} : ∀ (b a : List (Int × α)) (z), z ∈ mergeL a b ↔ z ∈ a ∨ z ∈ b
  | [], a, z => by cases a <;> simp [mergeL]
  | x :: b, a, z => by
    rw [mergeL, List.mem_append, List.mem_cons, mergeL_mem b]
    have h : z ∈ a ↔ z ∈ a.takeWhile (fun y => decide (y.1 ≤ x.1)) ∨ z ∈ a.dropWhile (fun y => decide (y.1 ≤ x.1)) := by
      rw [← List.mem_append, List.takeWhile_append_dropWhile]
    rw [h, List.mem_cons]
    constructor
    · rintro (h | h | h | h)
      · exact .inl (.inl h)
      · exact .inr (.inl h)
      · exact .inl (.inr h)
      · exact .inr (.inr h)
    · rintro ((h | h) | h | h)
      · exact .inl h
      · exact .inr (.inr (.inl h))
      · exact .inr (.inl h)
      · exact .inr (.inr (.inr h))
theorem bRun_len (ws : List Int) : ∀ k, (bRun ws k).length = lenK ws.length k
  | 0 => by show (sortL (soloP ws)).length = _; rw [sortL_len, soloP_len]; rfl
  | k + 1 => by
    show (mergeL _ _).length = _
    rw [mergeL_len, pairL_len, bRun_len ws k]
    show (sortL (soloP ws)).length + _ = _
    rw [sortL_len, soloP_len]
    rfl
theorem bRun_step (ws : List Int) : ∀ k, Asc (bRun ws k) ∧ bRun ws (k + 1) = sortL (bStart ws ++ pairL (· ++ ·) (bRun ws k))
  | 0 => ⟨sortL_asc _, (sortL_append (sortL_asc _) (pairL_asc _ _ (sortL_asc _)).1).symm⟩
  | k + 1 => by
    obtain ⟨_, h2⟩ := bRun_step ws k
    have h3 : Asc (bRun ws (k + 1)) := by rw [h2]; exact sortL_asc _
    exact ⟨h3, (sortL_append (sortL_asc _) (pairL_asc _ _ h3).1).symm⟩
/-- what is true of each pack behind k rounds -/
def BOk (n k : Nat) (t : Tr) : Prop := (0 ≤ t.1 ∧ t.1 ≤ 1000000 * (2 ^ k : Nat)) ∧ (1 ≤ t.2.length ∧ t.2.length ≤ 2 ^ k) ∧ ∀ x ∈ t.2, 0 ≤ x ∧ x < (n : Int)
theorem BOk.more {n k : Nat} {t : Tr} (h : BOk n k t) : BOk n (k + 1) t := by
  obtain ⟨⟨h1, h2⟩, ⟨h3, h4⟩, h5⟩ := h
  have e : 2 ^ (k + 1) = 2 ^ k + 2 ^ k := by rw [Nat.pow_succ]; omega
  refine ⟨⟨h1, ?_⟩, ⟨h3, ?_⟩, h5⟩
  · rw [e, Int.natCast_add, Int.mul_add]
    have : (0 : Int) ≤ 1000000 * (2 ^ k : Nat) := by omega
    omega
  · omega
theorem pairL_ok {n k : Nat} : ∀ (l : List Tr), (∀ t ∈ l, BOk n k t) → ∀ t ∈ pairL (· ++ ·) l, BOk n (k + 1) t
  | [], _, t, ht => by cases ht
  | [_], _, t, ht => by cases ht
  | a :: b :: l, h, t, ht => by
    rcases List.mem_cons.1 ht with rfl | ht
    · obtain ⟨⟨h1, h2⟩, ⟨h3, h4⟩, h5⟩ := h a (by simp)
      obtain ⟨⟨g1, g2⟩, ⟨g3, g4⟩, g5⟩ := h b (by simp)
      have e : 2 ^ (k + 1) = 2 ^ k + 2 ^ k := by rw [Nat.pow_succ]; omega
      refine ⟨⟨by show 0 ≤ a.1 + b.1; omega, ?_⟩, ⟨by simp; omega, by simp; omega⟩, fun x hx => ?_⟩
      · show a.1 + b.1 ≤ _
        rw [e, Int.natCast_add, Int.mul_add]
        omega
      · rcases List.mem_append.1 hx with hx | hx
        · exact h5 x hx
        · exact g5 x hx
    · exact pairL_ok l (fun z hz => h z (by simp [hz])) t ht
theorem solo_ok {ws : List Int} (hw : weightsB ws = true) : ∀ t ∈ soloP ws, BOk ws.length 0 t := by
  unfold weightsB at hw
  simp only [Bool.and_eq_true, decide_eq_true_eq] at hw
  have hall := all_in hw.2
  intro t ht
  obtain ⟨i, hi, rfl⟩ := List.mem_iff_getElem.1 ht
  have hil : i < ws.length := by simpa [soloP] using hi
  have e : (soloP ws)[i] = (ws[i], [(i : Int)]) := by simp [soloP]
  rw [e]
  have := hall _ (List.getElem_mem hil)
  exact ⟨⟨this.1, by simp; exact this.2⟩, ⟨by simp, by simp⟩, fun x hx => by obtain rfl := List.mem_singleton.1 hx; omega⟩
theorem bRun_ok {ws : List Int} (hw : weightsB ws = true) : ∀ k, ∀ t ∈ bRun ws k, BOk ws.length k t
  | 0, t, ht => solo_ok hw t ((sortL_mem _ _).1 ht)
  | k + 1, t, ht => by
    rcases (mergeL_mem _ _ _).1 ht with ht | ht
    · have h0 := solo_ok hw t ((sortL_mem _ _).1 ht)
      have : ∀ j, BOk ws.length j t := by
        intro j
        induction j with
        | zero => exact h0
        | succ j ih => exact ih.more
      exact this (k + 1)
    · exact pairL_ok _ (bRun_ok hw k) t ht

/-! ### Packs as numbers of each letter -/
/-- how often each letter stands in a list -/
def cnt (n : Nat) (xs : List Int) : List Int := (List.range n).map fun k : Nat => (xs.count (k : Int) : Int)
def addC (a b : List Int) : List Int := (List.range a.length).map fun k => a.getD k 0 + b.getD k 0
theorem cnt_len (n : Nat) (xs : List Int) : (cnt n xs).length = n := by simp [cnt]
theorem cnt_get {n k : Nat} (xs : List Int) (h : k < n) : (cnt n xs).getD k 0 = (xs.count (k : Int) : Int) := by simp [cnt, List.getD_eq_getElem?_getD, h]
theorem cnt_app (n : Nat) (a b : List Int) : cnt n (a ++ b) = addC (cnt n a) (cnt n b) := by
  apply List.ext_getElem (by simp [cnt, addC])
  intro k h1 h2
  have hk : k < n := by simpa [cnt] using h1
  simp [cnt, addC, List.getD_eq_getElem?_getD, hk, List.count_append]
def packs (ws : List Int) (k : Nat) : List (Int × List Int) := mapS (cnt ws.length) (bRun ws k)
theorem mergeL_map {α β : Type} (g : α → β) : ∀ (b a : List (Int × α)), mapS g (mergeL a b) = mergeL (mapS g a) (mapS g b)
  | [], a => by cases a <;> rfl
  | x :: b, a => by
    have ht : (mapS g a).takeWhile (fun y => decide (y.1 ≤ x.1)) = mapS g (a.takeWhile fun y => decide (y.1 ≤ x.1)) := by
      unfold mapS; rw [List.takeWhile_map]; rfl
    have hd : (mapS g a).dropWhile (fun y => decide (y.1 ≤ x.1)) = mapS g (a.dropWhile fun y => decide (y.1 ≤ x.1)) := by
      unfold mapS; rw [List.dropWhile_map]; rfl
    show mapS g (a.takeWhile (fun y => decide (y.1 ≤ x.1)) ++ x :: mergeL (a.dropWhile fun y => decide (y.1 ≤ x.1)) b) = (mapS g a).takeWhile (fun y => decide (y.1 ≤ x.1)) ++ (x.1, g x.2) :: mergeL ((mapS g a).dropWhile fun y => decide (y.1 ≤ x.1)) (mapS g b)
    rw [ht, hd, ← mergeL_map g b]
    simp [mapS]
theorem packs_step (ws : List Int) (k : Nat) : packs ws (k + 1) = mergeL (packs ws 0) (pairL addC (packs ws k)) := by
  unfold packs
  show mapS _ (mergeL _ _) = _
  rw [mergeL_map, mapS_pair (cnt ws.length) (· ++ ·) addC (cnt_app ws.length)]
  rfl
/-- each letter alone, as numbers -/
def soloC (ws : List Int) : List (Int × List Int) := (List.range ws.length).map fun i => (ws.getD i 0, (List.replicate ws.length 0).set i 1)
theorem soloC_is (ws : List Int) : mapS (cnt ws.length) (soloP ws) = soloC ws := by
  apply List.ext_getElem (by simp [mapS, soloP, soloC])
  intro i h1 h2
  have hi : i < ws.length := by simpa [mapS, soloP] using h1
  have e : cnt ws.length [(i : Int)] = (List.replicate ws.length 0).set i 1 := by
    apply List.ext_getElem (by simp [cnt])
    intro k k1 k2
    have hk : k < ws.length := by simpa [cnt] using k1
    rw [List.getElem_set]
    by_cases hik : i = k
    · subst hik; simp [cnt]
    · rw [if_neg hik]
      have : ¬ (i : Int) = (k : Int) := by omega
      simp [cnt, List.count_cons, this]
  simp [mapS, soloP, soloC, e, List.getD_eq_getElem?_getD, hi]
theorem packs_zero (ws : List Int) : packs ws 0 = sortL (soloC ws) := by
  unfold packs
  show mapS _ (sortL (soloP ws)) = _
  rw [mapS_sort, soloC_is]

/-! ### The lengths, counted in both ways -/
theorem addL_any : ∀ (xs longs : List Int), (∀ x ∈ xs, 0 ≤ x ∧ x < longs.length) → ∀ j : Nat, (addL longs xs).getD j 0 = longs.getD j 0 + (xs.count (j : Int) : Int)
  | [], longs, _, j => by simp [addL]
  | x :: xs, longs, hb, j => by
    have hx := hb x (List.mem_cons_self ..)
    show (addL (longs.set x.toNat (longs.getD x.toNat 0 + 1)) xs).getD j 0 = _
    rw [addL_any xs _ (fun y hy => by rw [List.length_set]; exact hb y (List.mem_cons_of_mem _ hy)), List.count_cons]
    by_cases hj : (j : Int) = x
    · have e : x.toNat = j := by omega
      have hjl : j < longs.length := by omega
      rw [e]
      simp [List.getD, hjl, hj]
      omega
    · have e : x.toNat ≠ j := by omega
      have e2 : ¬ x = (j : Int) := fun h => hj h.symm
      have h3 : (longs.set x.toNat (longs.getD x.toNat 0 + 1)).getD j 0 = longs.getD j 0 := by
        simp only [List.getD, List.getElem?_set_ne e]
      rw [h3]
      simp [e2]
theorem addL_cnt {n : Nat} {xs longs : List Int} (hl : longs.length = n) (hb : ∀ x ∈ xs, 0 ≤ x ∧ x < (n : Int)) : addL longs xs = addC longs (cnt n xs) := by
  apply List.ext_getElem (by rw [addL_len]; simp [addC])
  intro k h1 h2
  have hk : k < n := by rw [addL_len] at h1; omega
  have h := addL_any xs longs (by rw [hl]; exact hb) k
  rw [List.getD_eq_getElem?_getD, List.getElem?_eq_getElem h1] at h
  have h' : (addL longs xs)[k] = longs.getD k 0 + (xs.count (k : Int) : Int) := h
  have e : (addC longs (cnt n xs))[k]'h2 = longs.getD k 0 + (cnt n xs).getD k 0 := by simp [addC]
  rw [h', e, cnt_get xs hk]
theorem bLong_snoc (n : Nat) (P : List Tr) (t : Tr) : bLong n (P ++ [t]) = addL (bLong n P) t.2 := by unfold bLong; rw [List.foldl_append]; rfl
theorem bLong_len (n : Nat) : ∀ (P : List Tr), (bLong n P).length = n := by
  intro P
  have : ∀ (P : List Tr) (l : List Int), (P.foldl (fun l t => addL l t.2) l).length = l.length := by
    intro P
    induction P with
    | nil => intro l; rfl
    | cons t P ih => intro l; rw [List.foldl_cons, ih, addL_len]
  unfold bLong
  rw [this]
  simp
theorem bLong_bd {n M : Nat} : ∀ (P : List Tr), (∀ t ∈ P, t.2.length ≤ M ∧ ∀ x ∈ t.2, 0 ≤ x ∧ x < (n : Int)) → ∀ j, 0 ≤ (bLong n P).getD j 0 ∧ (bLong n P).getD j 0 ≤ P.length * M := by
  intro P
  have : ∀ (P : List Tr) (l : List Int) (B : Nat), l.length = n → (∀ t ∈ P, t.2.length ≤ M ∧ ∀ x ∈ t.2, 0 ≤ x ∧ x < (n : Int)) → (∀ j, 0 ≤ l.getD j 0 ∧ l.getD j 0 ≤ B) → ∀ j, 0 ≤ (P.foldl (fun l t => addL l t.2) l).getD j 0 ∧ (P.foldl (fun l t => addL l t.2) l).getD j 0 ≤ (B + P.length * M : Nat) := by
    intro P
    induction P with
    | nil => intro l B _ _ hB j; simpa using hB j
    | cons t P ih =>
      intro l B hl h hB j
      rw [List.foldl_cons]
      obtain ⟨h1, h2⟩ := h t List.mem_cons_self
      have h3 := ih (addL l t.2) (B + M) (by rw [addL_len, hl]) (fun z hz => h z (List.mem_cons_of_mem _ hz)) (fun i => by
        rw [addL_any t.2 l (by rw [hl]; exact h2)]
        have h4 := hB i
        have h5 : t.2.count (i : Int) ≤ t.2.length := List.count_le_length
        omega) j
      rw [List.length_cons, Nat.add_mul, Nat.one_mul, show B + (P.length * M + M) = B + M + P.length * M by omega]
      exact h3
  intro h j
  have h0 := this P (List.replicate n 0) 0 (by simp) h (fun i => by
    rw [List.getD_eq_getElem?_getD, List.getElem?_replicate]
    split <;> simp) j
  unfold bLong
  simpa using h0
theorem boundedV_len (ws : List Int) (most : Int) : (boundedV ws most).1.length ≤ 64 := by
  unfold boundedV
  split
  · rename_i h
    rw [Bool.and_eq_true] at h
    have h2 := h.1
    unfold boundOk weightsB at h2
    simp only [Bool.and_eq_true, decide_eq_true_eq] at h2
    show (boundedL ws most).length ≤ 64
    unfold boundedL
    split
    · simp
    · rw [bLong_len]; omega
  · exact Nat.zero_le _

end Go.Proofs.Ytkmfjadlobpbkaa
