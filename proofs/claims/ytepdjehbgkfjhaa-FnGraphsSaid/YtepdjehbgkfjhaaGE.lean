/-
  Plain: rounds of messages, and the first round whose bits are a member.
  Conditions: as each theorem says.
-/
import Derived.Test.YtepdjehbgkfjhaaGD
import Derived.Test.YtepdjehbgkfjhaaGM
namespace Go.Proofs.Ytepdjehbgkfjhaa
open Go.RowKit

section
variable (D : List (List Int)) (soft : List Nat) (n : Nat)
/-- what a row's bits tell it -/
def toL (M : List (List Nat)) (r : Nat) : List Nat := (D.getD r []).map fun bit => toldW D M (soft.getD bit.toNat 0) bit r n
/-- what a row answers -/
def nxtRow (M : List (List Nat)) (r : Nat) : List Nat := (List.range (D.getD r []).length).map fun k => ansW (toL D soft n M r) k
def nxtM (M : List (List Nat)) : List (List Nat) := (List.range n).map (nxtRow D soft n M)
def zeroM : List (List Nat) := D.map fun l => List.replicate l.length 0
def iterM : Nat → List (List Nat)
  | 0 => zeroM D
  | k + 1 => nxtM D soft n (iterM k)
def gtB (x : Nat) : Bool := FloatKind.f32.format.order x 0 == some .gt
def hardL : List Bool := soft.map gtB
def bitsM (M : List (List Nat)) : List Bool := (List.range soft.length).map fun b : Nat => gtB (toldW D M (soft.getD b 0) b (-1) n)
def bitsK : Nat → List Bool
  | 0 => hardL soft
  | k + 1 => bitsM D soft n (iterM D soft n (k + 1))
/-- messages have the graph's shape and lie below 2^a -/
def LowM (a : Nat) (M : List (List Nat)) : Prop := M.length = n ∧ ∀ r, r < n → (M.getD r []).length = (D.getD r []).length ∧ ∀ k, k < (D.getD r []).length → Low a ((M.getD r []).getD k 0)
end
variable {D : List (List Int)} {soft : List Nat} {n : Nat}
theorem LowM.mono {a b : Nat} {M : List (List Nat)} (h : LowM D n a M) (hab : a ≤ b) : LowM D n b M := ⟨h.1, fun r hr => ⟨(h.2 r hr).1, fun k hk => ((h.2 r hr).2 k hk).mono hab⟩⟩
theorem zeroM_low (hD : D.length = n) : LowM D n 0 (zeroM D) := by
  refine ⟨by simp [zeroM, hD], fun r hr => ?_⟩
  have e : (zeroM D).getD r [] = List.replicate (D.getD r []).length 0 := by
    simp [zeroM, List.getD_eq_getElem?_getD, show r < D.length by omega]
  rw [e]
  refine ⟨by simp, fun k hk => ?_⟩
  rw [List.getD_eq_getElem?_getD, List.getElem?_replicate, if_pos hk]
  show Low 0 0
  unfold Low
  decide
theorem toL_len (M : List (List Nat)) (r : Nat) : (toL D soft n M r).length = (D.getD r []).length := by simp [toL]
theorem nxtRow_len (M : List (List Nat)) (r : Nat) : (nxtRow D soft n M r).length = (D.getD r []).length := by simp [nxtRow]
theorem nxtM_at (M : List (List Nat)) {r : Nat} (h : r < n) : (nxtM D soft n M).getD r [] = nxtRow D soft n M r := by
  simp [nxtM, List.getD_eq_getElem?_getD, h]
theorem nxtM_low {a : Nat} {M : List (List Nat)} (h10 : 10 ≤ a) (ha : a + 2 * n ≤ 118) (hS : ∀ b, Low a (soft.getD b 0)) (hM : LowM D n a M) (ho : ∀ r, r < n → Once (D.getD r [])) : LowM D n (a + 2 * n + 1) (nxtM D soft n M) := by
  refine ⟨by simp [nxtM], fun r hr => ?_⟩
  rw [nxtM_at M hr]
  refine ⟨nxtRow_len M r, fun k hk => ?_⟩
  have e : (nxtRow D soft n M r).getD k 0 = ansW (toL D soft n M r) k := by
    unfold nxtRow
    rw [List.getD_eq_getElem?_getD, List.getElem?_map, List.getElem?_range hk]
    rfl
  rw [e]
  refine ansW_low (by omega) (by omega) (fun x hx => ?_) k
  obtain ⟨bit, _, rfl⟩ := List.mem_map.1 hx
  exact toldW_low (by omega) (hS _) (fun r hr => (hM.2 r hr).2) ho n (Nat.le_refl _)
theorem iterM_low {a : Nat} (hD : D.length = n) (h10 : 10 ≤ a) (hS : ∀ b, Low a (soft.getD b 0)) (ho : ∀ r, r < n → Once (D.getD r [])) : ∀ k, a + (2 * n + 1) * k + 2 * n ≤ 118 → LowM D n (a + (2 * n + 1) * k) (iterM D soft n k)
  | 0, _ => (zeroM_low hD).mono (by omega)
  | k + 1, hk => by
    have e : (2 * n + 1) * (k + 1) = (2 * n + 1) * k + 2 * n + 1 := by rw [Nat.mul_add]; omega
    have ih := iterM_low hD h10 hS ho k (by omega)
    rw [e]
    exact (nxtM_low (a := a + (2 * n + 1) * k) (by omega) (by omega) (fun b => (hS b).mono (by omega)) ih ho).mono (by omega)
/-- the first round whose bits are a member -/
def leastAt (D : List (List Int)) (soft : List Nat) (n most : Nat) : Option Nat := (List.range (most + 1)).find? fun k => memberB D (bitsK D soft n k)
theorem leastAt_some {most k : Nat} (hk : k ≤ most) (h : memberB D (bitsK D soft n k) = true) (hn : ∀ j, j < k → memberB D (bitsK D soft n j) = false) : leastAt D soft n most = some k := by
  unfold leastAt
  rw [List.find?_eq_some_iff_getElem]
  refine ⟨h, k, by simp; omega, by simp, fun j hj => ?_⟩
  simp [hn j hj]
theorem leastAt_none {most : Nat} (hn : ∀ j, j ≤ most → memberB D (bitsK D soft n j) = false) : leastAt D soft n most = none := by
  unfold leastAt
  rw [List.find?_eq_none]
  intro x hx
  simp [hn x (by have := List.mem_range.1 hx; omega)]
theorem leastAt_mem {most k : Nat} (h : leastAt D soft n most = some k) : memberB D (bitsK D soft n k) = true ∧ k ≤ most := by
  unfold leastAt at h
  have h1 := List.find?_some h
  have h2 := List.mem_of_find?_eq_some h
  exact ⟨h1, by have := List.mem_range.1 h2; omega⟩

end Go.Proofs.Ytepdjehbgkfjhaa
