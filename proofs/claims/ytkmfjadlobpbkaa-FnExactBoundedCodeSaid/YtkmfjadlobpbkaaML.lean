/-
  Plain: trees merged step by step; what stays true; sets of letters as numbers.
  Conditions: 1 to 16 letters.
-/
import Derived.Test.YtkmfjadlobpbkaaMJ
import Derived.Test.YtkmfjadlobpbkaaVC
namespace Go.Proofs.Ytkmfjadlobpbkaa
open Go.RowKit

abbrev Tr := Int × List Int
def mTake (P : List Tr) : Tr × List Tr := (P.getD (leastI (P.map Prod.fst)) (0, []), P.eraseIdx (leastI (P.map Prod.fst)))
def addL (longs : List Int) (xs : List Int) : List Int := xs.foldl (fun ls x => ls.set x.toNat (ls.getD x.toNat 0 + 1)) longs
def joinT (a b : Tr) : Tr := (a.1 + b.1, a.2 ++ b.2)
def mBoth (P : List Tr) : Tr := joinT (mTake P).1 (mTake (mTake P).2).1
def mStep (s : List Tr × List Int) : List Tr × List Int := ((mTake (mTake s.1).2).2 ++ [mBoth s.1], addL s.2 (mBoth s.1).2)
def mRun : Nat → List Tr × List Int → List Tr × List Int
  | 0, s => s
  | k + 1, s => mStep (mRun k s)
def mStart (ws : List Int) : List Tr × List Int := (soloP ws, List.replicate ws.length 0)
def mergedL (ws : List Int) : List Int := if ws.length = 1 then [1] else (mRun (ws.length - 1) (mStart ws)).2
def mergedV (ws : List Int) : List Int × Bool := if weightsB ws && codeB (mergedL ws) then (mergedL ws, true) else ([], false)

theorem erase_perm {α : Type} (P : List α) (i : Nat) (h : i < P.length) : (P[i] :: P.eraseIdx i).Perm P := by
  have e1 : P.take i ++ P[i] :: P.drop (i + 1) = P := by
    rw [List.getElem_cons_drop, List.take_append_drop]
  rw [List.eraseIdx_eq_take_drop_succ]
  have e2 : (P.take i ++ P[i] :: P.drop (i + 1)).Perm P := by rw [e1]
  exact List.perm_middle.symm.trans e2
theorem mergedV_len (ws : List Int) : (mergedV ws).1.length ≤ 64 := by
  unfold mergedV
  split
  · rename_i h
    rw [Bool.and_eq_true] at h
    have := h.2
    unfold codeB at this
    simp only [Bool.and_eq_true, decide_eq_true_eq] at this
    show (mergedL ws).length ≤ 64
    omega
  · exact Nat.zero_le _
theorem mTake_perm {P : List Tr} (h : 1 ≤ P.length) : ((mTake P).1 :: (mTake P).2).Perm P := by
  have hlt : leastI (P.map Prod.fst) < P.length := by
    have := leastI_lt (ws := P.map Prod.fst) (by simpa using h)
    simpa using this
  have e : (mTake P).1 = P[leastI (P.map Prod.fst)] := by simp [mTake, List.getD, hlt]
  rw [e]
  exact erase_perm P _ hlt
theorem mTake_len {P : List Tr} (h : 1 ≤ P.length) : (mTake P).2.length = P.length - 1 := by
  have := (mTake_perm h).length_eq
  simp at this
  omega
def totL (P : List Tr) : Int := (P.map Prod.fst).sum
theorem totL_perm {P Q : List Tr} (h : P.Perm Q) : totL P = totL Q := by
  unfold totL
  induction h with
  | nil => rfl
  | cons x _ ih => simp only [List.map_cons, List.sum_cons, ih]
  | swap x y l => simp only [List.map_cons, List.sum_cons]; omega
  | trans _ _ h1 h2 => exact h1.trans h2
theorem totL_nonneg : ∀ {P : List Tr}, (∀ t ∈ P, 0 ≤ t.1) → 0 ≤ totL P
  | [], _ => Int.le_refl _
  | t :: P, h => by
    have h1 := h t (List.mem_cons_self ..)
    have h2 := totL_nonneg (P := P) fun q hq => h q (List.mem_cons_of_mem _ hq)
    have : totL (t :: P) = t.1 + totL P := by simp [totL]
    omega
theorem totL_le : ∀ {P : List Tr}, (∀ t ∈ P, 0 ≤ t.1) → ∀ t ∈ P, t.1 ≤ totL P
  | [], _, t, ht => by cases ht
  | q :: P, h, t, ht => by
    have h1 := h q (List.mem_cons_self ..)
    have h2 := totL_nonneg (P := P) fun q hq => h q (List.mem_cons_of_mem _ hq)
    have e : totL (q :: P) = q.1 + totL P := by simp [totL]
    rcases List.mem_cons.1 ht with rfl | ht
    · omega
    · have := totL_le (P := P) (fun q hq => h q (List.mem_cons_of_mem _ hq)) t ht
      omega

/-- what stays true behind k rounds -/
structure MInv (n k : Nat) (s : List Tr × List Int) : Prop where
  len : s.1.length + k = n
  pos : ∀ t ∈ s.1, 0 ≤ t.1
  tot : totL s.1 ≤ 16000000
  let_ : (s.1.flatMap Prod.snd).Perm ((List.range n).map fun i : Nat => (i : Int))
  long : s.2.length = n
  bds : ∀ x ∈ s.2, 0 ≤ x ∧ x ≤ k
  some_ : ∀ t ∈ s.1, 1 ≤ t.2.length

theorem addL_len : ∀ (xs longs : List Int), (addL longs xs).length = longs.length
  | [], _ => rfl
  | x :: xs, longs => by
    show (addL (longs.set x.toNat (longs.getD x.toNat 0 + 1)) xs).length = _
    rw [addL_len xs, List.length_set]
/-- with no letter twice, each letter's number grows by one -/
theorem addL_get : ∀ (xs longs : List Int), xs.Nodup → (∀ x ∈ xs, 0 ≤ x ∧ x < longs.length) → ∀ j : Nat, (addL longs xs).getD j 0 = longs.getD j 0 + (if (j : Int) ∈ xs then 1 else 0)
  | [], longs, _, _, j => by simp [addL]
  | x :: xs, longs, hn, hb, j => by
    have hx := hb x (List.mem_cons_self ..)
    rw [List.nodup_cons] at hn
    show (addL (longs.set x.toNat (longs.getD x.toNat 0 + 1)) xs).getD j 0 = _
    rw [addL_get xs _ hn.2 (fun y hy => by rw [List.length_set]; exact hb y (List.mem_cons_of_mem _ hy))]
    by_cases hj : (j : Int) = x
    · have e : x.toNat = j := by omega
      have h1 : ¬ (j : Int) ∈ xs := by rw [hj]; exact hn.1
      have h2 : (j : Int) ∈ x :: xs := by rw [hj]; exact List.mem_cons_self ..
      rw [if_neg h1, if_pos h2, e]
      have hjl : j < longs.length := by omega
      simp [List.getD, hjl]
    · have e : x.toNat ≠ j := by omega
      have h1 : (if (j : Int) ∈ x :: xs then (1 : Int) else 0) = if (j : Int) ∈ xs then 1 else 0 := by simp [hj]
      rw [h1]
      have h3 : (longs.set x.toNat (longs.getD x.toNat 0 + 1)).getD j 0 = longs.getD j 0 := by
        simp only [List.getD, List.getElem?_set_ne e]
      rw [h3]
theorem mInv_start {ws : List Int} (h : weightsB ws = true) : MInv ws.length 0 (mStart ws) := by
  unfold weightsB at h
  simp only [Bool.and_eq_true, decide_eq_true_eq] at h
  obtain ⟨⟨h1, h2⟩, h3⟩ := h
  have hall := all_in h3
  have hs : (soloP ws).map Prod.fst = ws := by
    apply List.ext_getElem (by simp [soloP])
    intro i h1 h2
    simp [soloP]
  refine ⟨by simp [mStart, soloP], ?_, ?_, ?_, by simp [mStart], ?_, ?_⟩
  · intro t ht
    have : t.1 ∈ (soloP ws).map Prod.fst := List.mem_map_of_mem ht
    rw [hs] at this
    exact (hall _ this).1
  · show totL (soloP ws) ≤ _
    unfold totL
    rw [hs]
    have : ∀ (l : List Int), (∀ x ∈ l, x ≤ 1000000) → l.sum ≤ l.length * 1000000 := by
      intro l
      induction l with
      | nil => intro _; simp
      | cons a l ih =>
        intro hl
        have h1 := hl a (List.mem_cons_self ..)
        have h2 := ih fun x hx => hl x (List.mem_cons_of_mem _ hx)
        simp only [List.sum_cons, List.length_cons]
        push_cast
        omega
    have := this ws fun x hx => (hall x hx).2
    omega
  · show ((soloP ws).flatMap Prod.snd).Perm _
    have e : ∀ (l : List Int) (k : Nat), (l.mapIdx fun i x => (x, [((i + k : Nat) : Int)])).flatMap Prod.snd = (List.range' k l.length).map fun i : Nat => (i : Int) := by
      intro l
      induction l with
      | nil => intro k; rfl
      | cons a l ih =>
        intro k
        have h2 := ih (k + 1)
        have h3 : (l.mapIdx fun i x => (x, [((i + 1 + k : Nat) : Int)])) = l.mapIdx fun i x => (x, [((i + (k + 1) : Nat) : Int)]) := by
          apply List.ext_getElem (by simp)
          intro i h1 h2
          simp
          omega
        rw [List.mapIdx_cons, List.flatMap_cons, List.length_cons, List.range'_succ, List.map_cons, ← h2, h3]
        simp
    have this : (soloP ws).flatMap Prod.snd = (List.range ws.length).map fun i : Nat => (i : Int) := by
      have h0 := e ws 0
      simpa [soloP, List.range_eq_range'] using h0
    rw [this]
  · intro x hx
    have := List.eq_of_mem_replicate hx
    subst this
    exact ⟨Int.le_refl _, Int.le_refl _⟩
  · intro t ht
    obtain ⟨i, hi, rfl⟩ := List.mem_iff_getElem.1 ht
    have hi' : i < (soloP ws).length := hi
    show 1 ≤ ((soloP ws)[i]'hi').2.length
    simp [soloP]

theorem flat_perm {P Q : List Tr} (h : P.Perm Q) : (P.flatMap Prod.snd).Perm (Q.flatMap Prod.snd) := h.flatMap_right _
/-- the two that are taken, and what is left, are all -/
theorem mBoth_perm {P : List Tr} (h : 2 ≤ P.length) : ((mTake P).1 :: (mTake (mTake P).2).1 :: (mTake (mTake P).2).2).Perm P :=
  (List.Perm.cons _ (mTake_perm (by rw [mTake_len (by omega)]; omega))).trans (mTake_perm (by omega))
theorem mBoth_nodup {n k : Nat} {s : List Tr × List Int} (hi : MInv n k s) (h : 2 ≤ s.1.length) : (mBoth s.1).2.Nodup ∧ ∀ x ∈ (mBoth s.1).2, 0 ≤ x ∧ x < n := by
  have hp := mBoth_perm h
  have hf := (flat_perm hp).trans hi.let_
  simp only [List.flatMap_cons] at hf
  have hnd : ((List.range n).map fun i : Nat => (i : Int)).Nodup := by
    refine (List.pairwise_map.2 ?_ : List.Pairwise _ _)
    exact List.Pairwise.imp (fun h e => h (by omega)) List.nodup_range
  have hnd2 := hf.nodup_iff.2 hnd
  rw [← List.append_assoc] at hnd2
  refine ⟨(List.nodup_append.1 hnd2).1, fun x hx => ?_⟩
  have hm : x ∈ (List.range n).map fun i : Nat => (i : Int) := hf.mem_iff.1 (by rw [← List.append_assoc]; exact List.mem_append_left _ hx)
  obtain ⟨i, hi, rfl⟩ := List.mem_map.1 hm
  have := List.mem_range.1 hi
  omega
theorem mInv_step {n k : Nat} {s : List Tr × List Int} (hi : MInv n k s) (h : 2 ≤ s.1.length) : MInv n (k + 1) (mStep s) := by
  have hp := mBoth_perm h
  have hnd := mBoth_nodup hi h
  have hall : ∀ t ∈ (mTake s.1).1 :: (mTake (mTake s.1).2).1 :: (mTake (mTake s.1).2).2, 0 ≤ t.1 ∧ 1 ≤ t.2.length := fun t ht => ⟨hi.pos t (hp.mem_iff.1 ht), hi.some_ t (hp.mem_iff.1 ht)⟩
  have ha := hall _ (List.mem_cons_self ..)
  have hb := hall _ (List.mem_cons_of_mem _ (List.mem_cons_self ..))
  have htot := totL_perm hp
  have hlen := hp.length_eq
  simp only [List.length_cons] at hlen
  have hlen2 := hi.len
  refine ⟨?_, ?_, ?_, ?_, ?_, ?_, ?_⟩
  · show ((mTake (mTake s.1).2).2 ++ [mBoth s.1]).length + (k + 1) = n
    simp only [List.length_append, List.length_singleton]
    omega
  · intro t ht
    rcases List.mem_append.1 ht with ht | ht
    · exact (hall t (List.mem_cons_of_mem _ (List.mem_cons_of_mem _ ht))).1
    · obtain rfl := List.mem_singleton.1 ht
      show 0 ≤ (mTake s.1).1.1 + (mTake (mTake s.1).2).1.1
      omega
  · have h1 := hi.tot
    have e : totL (mStep s).1 = totL ((mTake s.1).1 :: (mTake (mTake s.1).2).1 :: (mTake (mTake s.1).2).2) := by
      show totL ((mTake (mTake s.1).2).2 ++ [mBoth s.1]) = _
      simp only [totL, List.map_append, List.map_cons, List.map_nil, List.sum_append, List.sum_cons, List.sum_nil, mBoth, joinT]
      omega
    omega
  · refine List.Perm.trans ?_ ((flat_perm hp).trans hi.let_)
    show ((((mTake (mTake s.1).2).2) ++ [mBoth s.1]).flatMap Prod.snd).Perm _
    simp only [List.flatMap_append, List.flatMap_cons, List.flatMap_nil, List.append_nil, mBoth, joinT]
    refine List.perm_append_comm.trans ?_
    rw [List.append_assoc]
  · show (addL s.2 _).length = n
    rw [addL_len, hi.long]
  · intro x hx
    obtain ⟨j, hj, rfl⟩ := List.mem_iff_getElem.1 hx
    have hj1 : j < (addL s.2 (mBoth s.1).2).length := hj
    have hj2 := hj1
    rw [addL_len] at hj2
    have h1 := addL_get (mBoth s.1).2 s.2 hnd.1 (fun x hx => by rw [hi.long]; exact hnd.2 x hx) j
    have h2 := hi.bds _ (List.getElem_mem hj2)
    have e1 : (addL s.2 (mBoth s.1).2).getD j 0 = (addL s.2 (mBoth s.1).2)[j] := by simp [List.getD, hj1]
    have e2 : s.2.getD j 0 = s.2[j] := by simp [List.getD, hj2]
    rw [e1, e2] at h1
    show 0 ≤ (addL s.2 (mBoth s.1).2)[j] ∧ (addL s.2 (mBoth s.1).2)[j] ≤ ((k + 1 : Nat) : Int)
    rw [h1]
    split <;> constructor <;> push_cast <;> omega
  · intro t ht
    rcases List.mem_append.1 ht with ht | ht
    · exact (hall t (List.mem_cons_of_mem _ (List.mem_cons_of_mem _ ht))).2
    · obtain rfl := List.mem_singleton.1 ht
      show 1 ≤ ((mTake s.1).1.2 ++ (mTake (mTake s.1).2).1.2).length
      rw [List.length_append]
      omega
theorem mInv_run {ws : List Int} (h : weightsB ws = true) : ∀ k, k + 1 ≤ ws.length → MInv ws.length k (mRun k (mStart ws))
  | 0, _ => mInv_start h
  | k + 1, hk => by
    have h1 := mInv_run h k (by omega)
    have := h1.len
    exact mInv_step h1 (by omega)


theorem len_flat {P : List Tr} {t : Tr} (h : t ∈ P) : t.2.length ≤ (P.flatMap Prod.snd).length := by
  induction P with
  | nil => cases h
  | cons q P ih =>
    rw [List.flatMap_cons, List.length_append]
    rcases List.mem_cons.1 h with rfl | h
    · omega
    · have := ih h; omega
theorem mInv_one {n k : Nat} {s : List Tr × List Int} (hi : MInv n k s) {t : Tr} (h : t ∈ s.1) : (0 ≤ t.1 ∧ t.1 ≤ 16000000) ∧ 1 ≤ t.2.length ∧ t.2.length ≤ n := by
  have h1 := len_flat h
  rw [hi.let_.length_eq] at h1
  simp at h1
  exact ⟨⟨hi.pos t h, Int.le_trans (totL_le hi.pos t h) hi.tot⟩, hi.some_ t h, h1⟩
theorem addL_snoc (longs xs : List Int) (y : Int) : addL longs (xs ++ [y]) = (addL longs xs).set y.toNat ((addL longs xs).getD y.toNat 0 + 1) := by
  unfold addL
  rw [List.foldl_append]
  rfl
/-- a part of the letters added: still small -/
theorem addL_bds {n k : Nat} {s : List Tr × List Int} (hi : MInv n k s) (h : 2 ≤ s.1.length) (j y : Nat) (hy : y < n) : 0 ≤ (addL s.2 ((mBoth s.1).2.take j)).getD y 0 ∧ (addL s.2 ((mBoth s.1).2.take j)).getD y 0 ≤ k + 1 := by
  have hnd := mBoth_nodup hi h
  have h1 := addL_get ((mBoth s.1).2.take j) s.2 (hnd.1.sublist (List.take_sublist _ _)) (fun x hx => by rw [hi.long]; exact hnd.2 x (List.mem_of_mem_take hx)) y
  have hy2 : y < s.2.length := by rw [hi.long]; exact hy
  have h2 := hi.bds _ (List.getElem_mem hy2)
  have e2 : s.2.getD y 0 = s.2[y] := by simp [List.getD, hy2]
  rw [h1, e2]
  split <;> omega


theorem map_fst_cells (T : List Tri) : (cellsT T).map Prod.fst = (plainT T).map Prod.fst := by simp [cellsT, plainT]
theorem cells_erase (T : List Tri) (i : Nat) : (cellsT T).eraseIdx i = cellsT (T.eraseIdx i) := by
  simp only [cellsT, List.eraseIdx_eq_take_drop_succ, List.map_append, List.map_take, List.map_drop]
theorem plain_erase (T : List Tri) (i : Nat) : (plainT T).eraseIdx i = plainT (T.eraseIdx i) := by
  simp only [plainT, List.eraseIdx_eq_take_drop_succ, List.map_append, List.map_take, List.map_drop]
end Go.Proofs.Ytkmfjadlobpbkaa
