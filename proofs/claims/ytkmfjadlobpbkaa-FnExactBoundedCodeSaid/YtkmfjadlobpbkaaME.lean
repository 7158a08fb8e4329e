/-
  Contracts: one bunch is cleared; a bunch is deleted.
  Conditions: 1 to 1048576 bunches.
-/
import Derived.Test.YtkmfjadlobpbkaaMD
import Derived.Lib.SliceRun
import Derived.Shelf.SlicesE.Delete
namespace Go.Proofs.Ytkmfjadlobpbkaa
open Go.RowKit Go.Shelf Go.Sort Go.Lib

/-- 'clear' of one bunch: its two cells hold the zero values -/
theorem run_clear_bunch (w : World) (ty : TypeId) (b o c : Nat)
    (hc : ∀ j, j < 2 → (w.cell? ⟨b, o + j, none⟩).isSome = true) (hf : ∀ j, j < 2 → w.frozen? ⟨b, o + j, none⟩ = false) :
    (Builtin.clear_ #[43] ty #[.slice (some ⟨b, o, none⟩) 1 c]).run Try.prog w = .ok (.tuple #[]) (w.setCells b o [.int .i64 0, .slice none 0 0]) := by
  have hv : ∀ w, (zeroValue 48).run Try.prog w = .ok (.agg #[.int .i64 0, .slice none 0 0]) w := by
    intro w; rfl
  have ht : Try.prog.underlying 43 = some (.slice 48) := rfl
  have hzc : (Builtin.zeroCells (Value.agg #[.int .i64 0, .slice none 0 0]).cells 1).toList = [.int .i64 0, .slice none 0 0] := by
    have h : (Value.agg #[.int .i64 0, .slice none 0 0]).cells = #[.int .i64 0, .slice none 0 0] := by simp [Value.cells]
    rw [h]
    have hr : Array.range (1 * #[Value.int .i64 0, .slice none 0 0].size) = #[0, 1] := by decide
    simp only [Builtin.zeroCells]
    rw [hr]
    simp
  have hst := run_storeCells_cells (P := Try.prog) b o [.int .i64 0, .slice none 0 0] 0 w (by simpa using hc) (by simpa using hf) (by simp [Value.oneCell'])
  simp only [Nat.add_zero] at hst
  simp [Builtin.clear_, run_underlying ht, hv, hzc, hst]

theorem delete_arrZ {α : Type} (d : Array α) (i j : Nat) (zs : List α) (hz : zs.length = j - i) (hij : i ≤ j) (hj : j ≤ d.size) :
    lay (lay d i (d.toList.drop j)) (i + (d.size - j)) zs = (d.toList.take i ++ d.toList.drop j ++ zs).toArray := by
  apply Array.ext_getElem?
  intro t
  have l1 : (d.toList.take i).length = i := by simp; omega
  have l2 : (d.toList.drop j).length = d.size - j := by simp
  rw [lay_get? _ _ _ _ (by rw [lay_size, hz]; omega), lay_get? _ _ _ _ (by rw [l2]; omega), show (d.toList.take i ++ d.toList.drop j ++ zs).toArray[t]? = (d.toList.take i ++ d.toList.drop j ++ zs)[t]? from List.getElem?_toArray]
  simp only [hz, l2]
  by_cases c1 : t < i
  · rw [if_neg (by omega), if_neg (by omega), List.getElem?_append_left (by simp; omega), List.getElem?_append_left (by omega), List.getElem?_take, if_pos c1, Array.getElem?_toList]
  · by_cases c2 : t < i + (d.size - j)
    · rw [if_neg (by omega), if_pos (by omega), List.getElem?_append_left (by simp; omega), List.getElem?_append_right (by omega), l1]
    · rw [List.getElem?_append_right (by simp; omega)]
      simp only [List.length_append, l1, l2]
      by_cases c3 : t < d.size
      · rw [if_pos (by omega)]
      · rw [if_neg (by omega), if_neg (by omega), Array.getElem?_eq_none (by omega), List.getElem?_eq_none (by omega)]


end Go.Proofs.Ytkmfjadlobpbkaa
