/-
  Contract: a row of tables of the call's own turned about.
  Conditions: one to 64 tables.
-/
import Derived.Test.YtopeidmafalklaaYE
import Derived.Test.YtopeidmafalklaaYI
namespace Go.Proofs.Ytopeidmafalklaa
open Go.RowKit Go.Shelf

def rowT' (S n : Nat) (q : Nat → Nat) : List Value := (List.range n).map fun i => rV S (q i)
def RowT (W : World) (base S g n cap : Nat) (q : Nat → Nat) : Prop := W.ownsRow base 84 1 (.slice (some ⟨g, 0, none⟩) n cap) n (rowT' S n q)
def swpT (q : Nat → Nat) (i j : Nat) (k : Nat) : Nat := if k = j then q i else if k = i then q j else q k
theorem RowT.get {W : World} {base S g n cap : Nat} {q : Nat → Nat} (h : RowT W base S g n cap q) {i : Nat} (hi : i < n) : W.cell? ⟨g, i, none⟩ = some (rV S (q i)) := by
  have := World.ownsRow.cellAt h i (by omega)
  rw [this]
  simp [rowT', hi]
theorem RowT.frz {W : World} {base S g n cap : Nat} {q : Nat → Nat} (h : RowT W base S g n cap q) (i : Nat) : W.frozen? ⟨g, i, none⟩ = false := World.ownsRow.frozenAt h i
theorem RowT.put {W : World} {base S g n cap : Nat} {q : Nat → Nat} (h : RowT W base S g n cap q) {i j : Nat} :
    RowT ((W.setCell ⟨g, i, none⟩ (rV S (q j))).setCell ⟨g, j, none⟩ (rV S (q i))) base S g n cap (swpT q i j) := by
  have h1 := (World.ownsRow.stored h i (rV S (q j))).1
  have h2 := (World.ownsRow.stored h1 j (rV S (q i))).1
  have e : (((rowT' S n q).set i (rV S (q j))).set j (rV S (q i))) = rowT' S n (swpT q i j) := by
    apply List.ext_getElem (by simp [rowT'])
    intro k k1 k2
    rw [List.getElem_set]
    by_cases hkj : j = k
    · rw [if_pos hkj]
      subst hkj
      simp [rowT', swpT]
    · rw [if_neg hkj, List.getElem_set]
      by_cases hki : i = k
      · rw [if_pos hki]
        subst hki
        have q2 : ¬ i = j := fun e => hkj e.symm
        simp [rowT', swpT, q2]
      · rw [if_neg hki]
        have q1 : ¬ k = i := fun e => hki e.symm
        have q2 : ¬ k = j := fun e => hkj e.symm
        simp [rowT', swpT, q1, q2]
  rw [e] at h2
  exact h2
theorem grown_twoT {W : World} {g i j : Nat} (u v : Value) : W.grownBy ((W.setCell ⟨g, i, none⟩ u).setCell ⟨g, j, none⟩ v) (some g) :=
  ⟨rfl, rfl, rfl, by simp, fun k _ hk => (Below.heap_setCell _ _ _ k (fun e => hk (by rw [e]))).trans (Below.heap_setCell _ _ _ k (fun e => hk (by rw [e])))⟩
theorem grownTT {a b c : World} {row : Option Nat} (h : a.grownBy b row) (k : b.grownBy c row) : a.grownBy c row :=
  ⟨k.os.trans h.os, k.tape.trans h.tape, k.output.trans h.output, Nat.le_trans h.size k.size, fun i hi hn => (k.block i (Nat.lt_of_lt_of_le hi h.size) hn).trans (h.block i hi hn)⟩
theorem grownRT (w : World) (row : Option Nat) : w.grownBy w row := ⟨rfl, rfl, rfl, Nat.le_refl _, fun _ _ _ => rfl⟩
theorem grownBT {w w' : World} (h : Below w.heap.size w w') (row : Option Nat) : w.grownBy w' row := ⟨h.os, h.tape, h.output, h.size, fun k hk _ => h.block k hk⟩
/-- turned about, so many places from both ends -/
def revQ (q : Nat → Nat) (n t : Nat) (i : Nat) : Nat := if i < t ∨ (n - t ≤ i ∧ i < n) then q (n - 1 - i) else q i
theorem revQ_zero (q : Nat → Nat) (n : Nat) : ∀ i, i < n → revQ q n 0 i = q i := fun i hi => by unfold revQ; rw [if_neg (by omega)]
theorem revQ_next (q : Nat → Nat) (n t : Nat) (h : t < n - 1 - t) : ∀ i, i < n → swpT (revQ q n t) t (n - 1 - t) i = revQ q n (t + 1) i := fun i hi => by
  unfold swpT revQ
  by_cases c1 : i = n - 1 - t
  · subst c1
    rw [if_pos rfl, if_neg (by omega), if_pos (by omega)]
    congr 1
    omega
  · rw [if_neg c1]
    by_cases c2 : i = t
    · subst c2
      rw [if_pos rfl, if_neg (by omega), if_pos (by omega)]
    · rw [if_neg c2]
      by_cases c3 : i < t ∨ (n - t ≤ i ∧ i < n)
      · rw [if_pos c3, if_pos (by omega)]
      · rw [if_neg c3, if_neg (by omega)]
theorem revQ_end (q : Nat → Nat) (n t : Nat) (h : ¬ t < n - 1 - t) (ht : t ≤ n) : ∀ i, i < n → revQ q n t i = q (n - 1 - i) := fun i hi => by
  unfold revQ
  by_cases c : i < t ∨ (n - t ≤ i ∧ i < n)
  · rw [if_pos c]
  · rw [if_neg c]
    congr 1
    omega
theorem RowT.cast {W : World} {base S g n cap : Nat} {p q : Nat → Nat} (h : RowT W base S g n cap p) (e : ∀ i, i < n → q i = p i) : RowT W base S g n cap q := by
  have : rowT' S n q = rowT' S n p := by
    unfold rowT'
    refine List.map_congr_left fun i hi => ?_
    rw [e i (List.mem_range.1 hi)]
  unfold RowT
  rw [this]
  exact h


set_option maxRecDepth 100000 in
set_option maxHeartbeats 4000000 in
theorem Reverse_likely_c (w : World) (base S g n cap : Nat) (q : Nat → Nat) (hn1 : 1 ≤ n) (hn : n ≤ 64) (h : RowT w base S g n cap q) :
    Calls Try.prog 47 #[.slice (some ⟨g, 0, none⟩) n cap] w fun e w' => e = .returned (.tuple #[]) ∧ RowT w' base S g n cap (fun i => q (n - 1 - i)) ∧ w.grownBy w' (some g) := by
  have H0 := Lib.hid h
  clear h
  go_enter Try.func47, Try.ntmps47
  go_wp2
  go_loopw [2, 3] (fun i j wr => ∃ (t : Nat) (m : Int), t ≤ n ∧ m = (n : Int) - 1 - (t : Int) ∧ 2 * t ≤ n + 1 ∧ i = .int .i64 t ∧ j = .int .i64 m ∧ RowT wr base S g n cap (revQ q n t) ∧ w.grownBy wr (some g)) (fun i _ _ => n - (intOf i).toNat)
  case atStart => exact ⟨0, (n : Int) - 1, Nat.zero_le _, by omega, by omega, rfl, by go_num, H0.out.cast (revQ_zero q n), grownRT _ _⟩
  case round =>
    obtain ⟨t, m, ht, hm, ht2, rfl, rfl, hr, hg⟩ := hrel
    by_cases hlt : t < n - 1 - t
    · obtain ⟨j, hj⟩ : ∃ j, n - 1 - t = j := ⟨_, rfl⟩
      obtain rfl : m = (j : Int) := by omega
      have c1 := hr.get (i := t) (by omega)
      have c2 := hr.get (i := j) (by omega)
      have f1 := hr.frz t
      have f2 := hr.frz j
      have q1 : (0 : Int) ≤ (t : Int) := by omega
      have q2 : (t : Int) < (n : Int) := by omega
      have q3 : (0 : Int) ≤ (j : Int) := by omega
      have q4 : (j : Int) < (n : Int) := by omega
      have q5 : (t : Int) < (j : Int) := by omega
      have hput := hr.put (i := t) (j := j)
      have hnx := revQ_next q n t hlt
      rw [hj] at hnx
      have hput2 := hput.cast (fun i hi => (hnx i hi).symm)
      obtain ⟨x, ex⟩ : ∃ x, revQ q n t t = x := ⟨_, rfl⟩
      obtain ⟨y, ey⟩ : ∃ y, revQ q n t j = y := ⟨_, rfl⟩
      rw [ex, ey] at hput2
      rw [ex] at c1
      rw [ey] at c2
      unfold rV at c1 c2
      have HP := Lib.hid hput2
      have HG := Lib.hid hg
      have hne : ¬ t = j := by omega
      have HJ := Lib.hid hj
      clear hput hput2 hnx hr ex ey hg hm hj
      go_wp2_with fail
      go_region
      have HX := Lib.hid (grownTT HG.out (grown_twoT (i := t) (j := j) (W := wr) (rV S y) (rV S x)))
      go_wp2_with fail
      go_roundw
      case rel => exact ⟨t + 1, (j : Int) - 1, by omega, by have := HJ.out; omega, by have := HJ.out; omega, by go_num, by go_num, own_below HP.out (below_drewN (Below.refl _ _) 1) (Nat.le_refl _), grownTT HX.out (grownBT (below_drewN (Below.refl _ _) 1) _)⟩
      case measure => simp [intOf]; omega
    · have hd : decide ((t : Int) < m) = false := decide_eq_false (by omega)
      have HR := Lib.hid hr
      have HG := Lib.hid hg
      have HE := Lib.hid (revQ_end q n t hlt ht)
      clear hr hg hm
      go_wp2
      go_end0
      exact ⟨rfl, HR.out.cast (fun i hi => (HE.out i hi).symm), HG.out⟩

end Go.Proofs.Ytopeidmafalklaa
