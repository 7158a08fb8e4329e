/-
  Contracts of the laws' helpers: copies, comparisons, marks.
  Conditions: lengths at most 1048576 where memory is made; marks are small numbers.
-/
import Derived.Test.YtepdjehbgkfjhaaR
namespace Go.Proofs.Ytepdjehbgkfjhaa
open Go.RowKit

def marks (f : Int → Value) (k : Int) (n : Nat) : List Value := (List.range n).map fun i : Nat => f (k + (i : Int))
theorem marks_length (f : Int → Value) (k : Int) (n : Nat) : (marks f k n).length = n := by simp [marks]
theorem marks_get (f : Int → Value) (k : Int) (n i : Nat) (h : i < n) : (marks f k n)[i]? = some (f (k + (i : Int))) := by simp [marks, h]
theorem marks_snoc (f : Int → Value) (k : Int) (n : Nat) : marks f k (n + 1) = marks f k n ++ [f (k + (n : Int))] := by simp [marks, List.range_succ]
theorem marks_set (f : Int → Value) (k : Int) (xs : List Value) (n i : Nat) (hl : xs.length = n) (h : i < n) : (marks f k i ++ xs.drop i).set i (f (k + (i : Int))) = marks f k (i + 1) ++ xs.drop (i + 1) := by
  rw [marks_snoc, List.set_append_right _ _ (by rw [marks_length]; exact Nat.le_refl _), List.append_assoc]
  congr 1
  rw [marks_length, Nat.sub_self, List.drop_eq_getElem_cons (by omega)]
  rfl

theorem only_setCell {a w : World} {g : Nat} (h : a.grownBy w (some g)) {p : Addr} (hp : p.block = g) (u : Value) : a.grownBy (w.setCell p u) (some g) :=
  ⟨h.os, h.tape, h.output, by simpa [World.setCell] using h.size, fun i hi hne => (Below.heap_setCell w p u i (by
    rintro rfl
    exact hne (by rw [hp]))).trans (h.block i hi hne)⟩


theorem infoInt64 : (Try.prog.info? 2).map (fun i => (i.zero, i.size, i.bytes)) = some (some (.int .i64 0), 1, 8) := by kernel_rfl


theorem infoBool : (Try.prog.info? 4).map (fun i => (i.zero, i.size, i.bytes)) = some (some (.bool false), 1, 1) := by kernel_rfl


theorem infoFloat32 : (Try.prog.info? 46).map (fun i => (i.zero, i.size, i.bytes)) = some (some (.float .f32 0), 1, 4) := by kernel_rfl











theorem one64 : floatBits .quo .f64 4607182418800017408 0 = some 9218868437227405312 := by decide +kernel




end Go.Proofs.Ytepdjehbgkfjhaa
