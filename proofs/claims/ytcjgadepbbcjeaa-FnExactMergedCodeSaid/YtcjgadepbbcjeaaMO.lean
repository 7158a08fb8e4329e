/-
  Contracts: merged codes, of the reference.
  Conditions: weights in a slice of at most 1048576.
-/
import Derived.Test.YtcjgadepbbcjeaaMM
namespace Go.Proofs.Ytcjgadepbbcjeaa
open Go.RowKit Go.Shelf Go.Sort Go.Lib

/-- letters as a set of binary digits -/
def setN (xs : List Int) : Nat := xs.foldr (fun x a => 2 ^ x.toNat ||| a) 0
theorem setN_app (xs ys : List Int) : setN (xs ++ ys) = setN xs ||| setN ys := by
  induction xs with
  | nil => show setN ys = 0 ||| setN ys; rw [Nat.zero_or]
  | cons x xs ih =>
    show (2 ^ x.toNat ||| setN (xs ++ ys)) = (2 ^ x.toNat ||| setN xs) ||| setN ys
    rw [ih, Nat.or_assoc]
theorem setN_bit (xs : List Int) (hx : ∀ x ∈ xs, 0 ≤ x) (j : Nat) : (setN xs).testBit j = decide ((j : Int) ∈ xs) := by
  induction xs with
  | nil => simp [setN]
  | cons x xs ih =>
    have h0 := hx x (List.mem_cons_self ..)
    have h1 := ih fun y hy => hx y (List.mem_cons_of_mem _ hy)
    show (2 ^ x.toNat ||| setN xs).testBit j = _
    rw [Nat.testBit_or, h1, Nat.testBit_two_pow]
    by_cases h : x.toNat = j
    · have : (j : Int) = x := by omega
      simp [h, this]
    · have : ¬ (j : Int) = x := by omega
      simp [h, this]
theorem setN_lt (xs : List Int) (hx : ∀ x ∈ xs, 0 ≤ x ∧ x < 16) : setN xs < 65536 := by
  induction xs with
  | nil => simp [setN]
  | cons x xs ih =>
    have h0 := hx x (List.mem_cons_self ..)
    have h1 := ih fun y hy => hx y (List.mem_cons_of_mem _ hy)
    have h2 : 2 ^ x.toNat < 2 ^ 16 := Nat.pow_lt_pow_right (by decide) (by omega)
    exact Nat.or_lt_two_pow (n := 16) h2 h1
theorem and_natM (a b : Nat) (ha : a < 65536) (hb : b < 65536) : bits .and .i64 (a : Int) (b : Int) = ((a &&& b : Nat) : Int) := by
  have e1 : BitVec.ofInt 64 (a : Int) = BitVec.ofNat 64 a := BitVec.ofInt_natCast 64 a
  have e2 : BitVec.ofInt 64 (b : Int) = BitVec.ofNat 64 b := BitVec.ofInt_natCast 64 b
  have e3 : bits .and .i64 (a : Int) (b : Int) = IntKind.i64.wrap ((BitVec.ofInt 64 (a : Int) &&& BitVec.ofInt 64 (b : Int)).toNat : Int) := rfl
  have h1 : a &&& b ≤ a := Nat.and_le_left
  have h2 : (BitVec.ofNat 64 a &&& BitVec.ofNat 64 b).toNat = a &&& b := by
    rw [BitVec.toNat_and, BitVec.toNat_ofNat, BitVec.toNat_ofNat, Nat.mod_eq_of_lt (by omega), Nat.mod_eq_of_lt (by omega)]
  rw [e3, e1, e2, h2, IntWalk.i64_in _ (by omega)]
theorem or_natM (a b : Nat) (ha : a < 65536) (hb : b < 65536) : bits .or .i64 (a : Int) (b : Int) = ((a ||| b : Nat) : Int) := by
  have e1 : BitVec.ofInt 64 (a : Int) = BitVec.ofNat 64 a := BitVec.ofInt_natCast 64 a
  have e2 : BitVec.ofInt 64 (b : Int) = BitVec.ofNat 64 b := BitVec.ofInt_natCast 64 b
  have e3 : bits .or .i64 (a : Int) (b : Int) = IntKind.i64.wrap ((BitVec.ofInt 64 (a : Int) ||| BitVec.ofInt 64 (b : Int)).toNat : Int) := rfl
  have h1 : a ||| b < 2 ^ 16 := Nat.or_lt_two_pow (by omega) (by omega)
  have h2 : (BitVec.ofNat 64 a ||| BitVec.ofNat 64 b).toNat = a ||| b := by
    rw [BitVec.toNat_or, BitVec.toNat_ofNat, BitVec.toNat_ofNat, Nat.mod_eq_of_lt (by omega), Nat.mod_eq_of_lt (by omega)]
  rw [e3, e1, e2, h2, IntWalk.i64_in _ (by omega)]
theorem bitI (a i : Nat) (ha : a < 65536) : bits .and .i64 ((a : Int) / 2 ^ i) 1 = if a.testBit i then 1 else 0 := by
  have e : (a : Int) / 2 ^ i = ((a / 2 ^ i : Nat) : Int) := by norm_cast
  have h1 : a / 2 ^ i ≤ a := Nat.div_le_self _ _
  have h2 := and_natM (a / 2 ^ i) 1 (by omega) (by decide)
  rw [e, show (1 : Int) = ((1 : Nat) : Int) from rfl, h2, Nat.and_one_is_mod, Nat.testBit_eq_decide_div_mod_eq]
  have h3 : a / 2 ^ i % 2 < 2 := Nat.mod_lt _ (by decide)
  by_cases h : a / 2 ^ i % 2 = 1
  · rw [h]; rfl
  · have : a / 2 ^ i % 2 = 0 := by omega
    rw [this]; rfl

/-- a tree of the reference: its weight, its set -/
def cellsQ (P : List Tr) : List (Int × Value) := P.map fun t => (t.1, .int .i64 (setN t.2 : Int))
theorem cellsQ_erase (P : List Tr) (i : Nat) : (cellsQ P).eraseIdx i = cellsQ (P.eraseIdx i) := by
  simp only [cellsQ, List.eraseIdx_eq_take_drop_succ, List.map_append, List.map_take, List.map_drop]
theorem cellsQ_one (P : List Tr) : ∀ u ∈ fl2 (cellsQ P), u.oneCell' = true := by
  refine fl2_one _ fun t ht => ?_
  obtain ⟨q, _, rfl⟩ := List.mem_map.1 ht
  rfl
/-- the longs behind a merge, up to a letter -/
def addK (l xs : List Int) (k : Nat) : List Int := (List.range l.length).map fun j => l.getD j 0 + (if j < k ∧ (j : Int) ∈ xs then 1 else 0)
theorem addK_zero (l xs : List Int) : addK l xs 0 = l := by
  apply List.ext_getElem (by simp [addK])
  intro j h1 h2
  simp [addK, List.getD, h2]
theorem addK_len (l xs : List Int) (k : Nat) : (addK l xs k).length = l.length := by simp [addK]
theorem addK_get (l xs : List Int) (k j : Nat) (hj : j < l.length) : (addK l xs k).getD j 0 = l.getD j 0 + (if j < k ∧ (j : Int) ∈ xs then 1 else 0) := by
  simp [addK, List.getD, hj]
theorem addK_succ (l xs : List Int) (k : Nat) : addK l xs (k + 1) = (addK l xs k).set k (l.getD k 0 + (if (k : Int) ∈ xs then 1 else 0)) := by
  apply List.ext_getElem (by simp [addK])
  intro j h1 h2
  have hj : j < l.length := by simpa [addK] using h1
  rw [List.getElem_set]
  by_cases h : k = j
  · subst h
    simp [addK]
  · have h3 : (j < k + 1) = (j < k) := by apply propext; omega
    simp [addK, h, h3]
theorem addK_all (l xs : List Int) (hn : xs.Nodup) (hb : ∀ x ∈ xs, 0 ≤ x ∧ x < l.length) : addK l xs l.length = addL l xs := by
  apply List.ext_getElem (by simp [addK, addL_len])
  intro j h1 h2
  have hj : j < l.length := by simpa [addK] using h1
  have h3 := addL_get xs l hn hb j
  have e1 : (addL l xs).getD j 0 = (addL l xs)[j] := by simp [List.getD, h2]
  rw [← e1, h3]
  simp [addK, hj]

theorem own_bn {w : World} {base b n cap : Nat} {e : TypeId} {ts : List (Int × Value)} (h : w.ownsRow base e 2 (.slice (some ⟨b, 0, none⟩) n cap) n (fl2 ts)) : Bn w b 0 (ts.map Prod.fst) := by
  intro i hi
  have hi' : i < ts.length := by simpa using hi
  have hl := h.1
  rw [fl2_len] at hl
  have k0 := World.ownsRow.cellAt h (i * 2) (by omega)
  rw [(fl2_at ts i hi').1] at k0
  rw [Nat.zero_add, k0]
  simp [List.getD, hi']

theorem len_cut {L m j : Nat} (h : j = L + 1) (h2 : L < m) : L + (m - j) = m - 1 := by omega
theorem le_cut {L m j c : Nat} (h : j = L + 1) (h2 : L < m) (h3 : m ≤ c) : L ≤ c ∧ j ≤ c ∧ j ≤ m := by omega
/-- what is to be known where an element of two cells is cut out by an append in place -/
theorem erase_facts (w : World) (base b n cap i : Nat) (e : TypeId) (xs : List Value) (hown : w.ownsRow base e 2 (.slice (some ⟨b, 0, none⟩) n cap) n xs) (hi : i < n) (h1 : ∀ x ∈ xs, x.oneCell' = true) (j : Nat) (hj : j = i + 1) :
    ∃ (A : Addr) (news : List Value) (W1 : World), (if cap = j then some (⟨b, 0, none⟩ : Addr) else some ⟨b, j * 2, none⟩) = some A ∧ news.length = (n - j) * 2 ∧ (∀ t u, news[t]? = some u → w.drew.cell? (A.add t) = some u) ∧ (∀ u ∈ news, u.oneCell' = true) ∧
      (∀ t, t < news.length → (w.drew.cell? ⟨b, 0 + i * 2 + t, none⟩).isSome = true ∧ w.drew.frozen? ⟨b, 0 + i * 2 + t, none⟩ = false) ∧ W1 = w.drew.setCells b (0 + i * 2) news ∧
      W1.ownsRow base e 2 (.slice (some ⟨b, 0, none⟩) (i + (n - j)) cap) (i + (n - j)) (xs.take (i * 2) ++ xs.drop (j * 2)) ∧ w.grownBy W1 (some b) ∧ n ≤ cap := by
  have hH := holds_of_own hown
  have hl := hown.1
  rcases hown.2 with ⟨hn, _⟩ | ⟨g, cap', cur, hv, hbg, hg, hnc, hm, hs, ht⟩
  · cases hn
  injection hv with hv1 hv2 hv3
  injection hv1 with hv1
  injection hv1 with hv1
  subst hv1 hv3
  obtain ⟨d, hd⟩ : ∃ d : Array Value, xs.toArray = d := ⟨_, rfl⟩
  have hdl : d.toList = xs := by rw [← hd]
  have hds : d.size = n * 2 := by rw [← hd]; simpa using hl
  rw [hd] at hH
  have hlen : (xs.drop (j * 2)).length = (n - j) * 2 := by simp; omega
  have hget : ∀ t, t < (n - j) * 2 → (xs.drop (j * 2))[t]? = some d[j * 2 + t]! := by
    intro t ht
    rw [List.getElem?_drop, ← hdl, Array.getElem?_toList, getElem!_pos d (j * 2 + t) (by omega), Array.getElem?_eq_getElem (by omega)]
  obtain ⟨A, hA, hsrc⟩ : ∃ A : Addr, (if cap = j then some (⟨b, 0, none⟩ : Addr) else some ⟨b, j * 2, none⟩) = some A ∧ (∀ t u, (xs.drop (j * 2))[t]? = some u → w.drew.cell? (A.add t) = some u) := by
    by_cases h : cap = j
    · refine ⟨⟨b, 0, none⟩, by simp [h], fun t u hu => ?_⟩
      have h0 : (xs.drop (j * 2)).length = 0 := by rw [hlen]; omega
      rw [List.length_eq_zero_iff.1 h0] at hu
      simp at hu
    · refine ⟨⟨b, j * 2, none⟩, by simp [h], fun t u hu => ?_⟩
      have ht : t < (n - j) * 2 := by
        have := (List.getElem?_eq_some_iff.1 hu).1
        rwa [hlen] at this
      rw [hget t ht] at hu
      rw [Addr.add_lit]
      have := (hH (j * 2 + t) (by omega)).1
      rw [Nat.zero_add] at this
      exact this.trans hu
  refine ⟨A, xs.drop (j * 2), _, hA, hlen, hsrc, fun u hu => h1 u (List.mem_of_mem_drop hu), ?_, rfl, ?_, ?_, hnc⟩
  · intro t ht
    rw [hlen] at ht
    rw [Nat.add_assoc]
    exact ⟨by show (w.cell? _).isSome = true; rw [(hH (i * 2 + t) (by omega)).1]; rfl, (hH (i * 2 + t) (by omega)).2⟩
  all_goals
    have hW1 : w.drew.setCells b (0 + i * 2) (xs.drop (j * 2)) = putRow id (Sort.ahead w 1) b 0 (lay d (i * 2) (xs.drop (j * 2))) := by
      rw [← List.map_id (xs.drop (j * 2)), ← putRow_setCells id (Sort.ahead w 1) b 0 _ d (i * 2) (by simp; omega), putRow_self id (Sort.ahead w 1) b 0 d (holds_ahead id w 1 b 0 d hH)]
      simp
      rfl
    rw [hW1]
  · have hl2 : (xs.take (i * 2) ++ xs.drop (j * 2)).length = (i + (n - j)) * 2 := by simp; omega
    refine ⟨hl2, .inr ⟨b, cap, _, rfl, hbg, heap_putRow _ hg, by omega, hm, by simp [putCells, hs], ?_⟩⟩
    have hls : (lay d (i * 2) (xs.drop (j * 2))).size = d.size := lay_size _ _ _
    have h2 := take_putCells cur (lay d (i * 2) (xs.drop (j * 2))).toList (by rw [Array.length_toList, hls, hds, hs]; omega)
    rw [Array.toArray_toList] at h2
    have h3 := congrArg (List.take ((i + (n - j)) * 2)) h2
    rw [List.take_take, Array.length_toList, hls, hds, Nat.min_eq_left (by omega)] at h3
    rw [h3]
    apply List.ext_getElem?
    intro t
    by_cases ht : t < (i + (n - j)) * 2
    · rw [List.getElem?_take_of_lt ht, Array.getElem?_toList, lay_get? _ _ _ _ (by rw [hlen]; omega), hlen]
      by_cases c1 : i * 2 ≤ t
      · rw [if_pos (by omega), List.getElem?_append_right (by simp; omega)]
        congr 1
        simp
        omega
      · rw [if_neg (by omega), List.getElem?_append_left (by simp; omega), List.getElem?_take_of_lt (by omega), ← Array.getElem?_toList, hdl]
    · rw [List.getElem?_take_eq_none (by omega), List.getElem?_eq_none (by omega)]
  · exact grown_putRow _

end Go.Proofs.Ytcjgadepbbcjeaa
