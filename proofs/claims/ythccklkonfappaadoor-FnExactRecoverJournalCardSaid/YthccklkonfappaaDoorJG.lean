/-
  Plain: what a journal's text tells, line by line, and from a place on.
  Conditions: none.
-/
import Derived.Test.YthccklkonfappaaDoorJF
namespace Go.Proofs.YthccklkonfappaaDoor
open Go.RowKit

def spI (l : List UInt8) : Int := Lib.indexByte l 32
/-- a line's number, its text, and whether it is right behind a sum -/
def numL (l : List UInt8) : List UInt8 := l.take (spI l).toNat
def txtL (l : List UInt8) : List UInt8 := l.drop ((spI l).toNat + 1)
def okL (c : Nat) (l : List UInt8) : Bool := decide (0 ≤ spI l) && decide ((⟨(numL l).toArray⟩ : ByteArray) = decS (chkL c (txtL l)))
/-- what lines tell behind a sum, and how many bytes they have -/
def recG : Nat → List (List UInt8) → List (List UInt8) × Nat
  | _, [] => ([], 0)
  | c, l :: ls => if okL c l then (txtL l :: (recG (chkL c (txtL l)) ls).1, l.length + 1 + (recG (chkL c (txtL l)) ls).2) else ([], 0)
/-- the whole lines of bytes -/
def linO (l : List UInt8) : List (List UInt8) := (cutL 10 l).dropLast
theorem linesL_eq (s : ByteArray) : linesL s = linO s.data.toList := rfl
def RecTo (L : List (List UInt8)) (D : List (List UInt8)) (c p : Nat) (R : List (List UInt8)) : Prop := recG 0 L = (D ++ (recG c R).1, p + (recG c R).2)
theorem recTo_start (L : List (List UInt8)) : RecTo L [] 0 0 L := by unfold RecTo; simp
theorem recTo_step {L D : List (List UInt8)} {c p : Nat} {l : List UInt8} {R : List (List UInt8)} (h : RecTo L D c p (l :: R)) (hk : okL c l = true) : RecTo L (D ++ [txtL l]) (chkL c (txtL l)) (p + (l.length + 1)) R := by
  unfold RecTo at h ⊢
  rw [h]
  simp [recG, hk, Nat.add_assoc]
theorem recTo_stop {L D : List (List UInt8)} {c p : Nat} {l : List UInt8} {R : List (List UInt8)} (h : RecTo L D c p (l :: R)) (hk : okL c l = false) : recG 0 L = (D, p) := by
  unfold RecTo at h
  rw [h]
  simp [recG, hk]
theorem recTo_end {L D : List (List UInt8)} {c p : Nat} (h : RecTo L D c p []) : recG 0 L = (D, p) := by
  unfold RecTo at h
  rw [h]
  simp [recG]
theorem lin_no {l : List UInt8} (h : Lib.indexByte l 10 = -1) : linO l = [] := by
  rw [← Lib.index_one] at h
  unfold linO
  rw [cutL_no (index_neg h)]
  rfl
theorem lin_at {l : List UInt8} {i : Nat} (h : Lib.indexByte l 10 = i) : linO l = l.take i :: linO (l.drop (i + 1)) := by
  rw [← Lib.index_one] at h
  obtain ⟨h1, h2⟩ := index_pos h
  unfold linO
  conv => lhs; rw [h1]
  rw [cutL_app h2, List.dropLast_cons_of_ne_nil (cutL_ne _ _)]
theorem idx_lt {l : List UInt8} {c : UInt8} {i : Nat} (h : Lib.indexByte l c = i) : i < l.length := by
  have h1 := (Lib.indexByte_some h).1
  exact (List.getElem?_eq_some_iff.1 h1).1
theorem cut_sp (l : List UInt8) (h : 0 ≤ spI l) : Lib.cut l [32] = (numL l, txtL l, true) := by
  unfold Lib.cut
  rw [Lib.index_one]
  unfold spI at h
  rw [if_pos h]
  rfl
theorem cut_nosp (l : List UInt8) (h : ¬ 0 ≤ spI l) : Lib.cut l [32] = (l, [], false) := by
  unfold Lib.cut
  rw [Lib.index_one]
  unfold spI at h
  rw [if_neg h]
theorem ok_nosp {c : Nat} {l : List UInt8} (h : ¬ 0 ≤ spI l) : okL c l = false := by
  unfold okL
  rw [decide_eq_false h, Bool.false_and]
theorem ok_sp {c : Nat} {l : List UInt8} (h : 0 ≤ spI l) : okL c l = decide ((⟨(numL l).toArray⟩ : ByteArray) = decS (chkL c (txtL l))) := by
  unfold okL
  rw [decide_eq_true h, Bool.true_and]

end Go.Proofs.YthccklkonfappaaDoor
