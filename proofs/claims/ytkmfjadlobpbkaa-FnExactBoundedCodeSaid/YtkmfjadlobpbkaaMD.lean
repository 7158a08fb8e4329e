/-
  Contracts: the least bunch.
  Conditions: 1 to 1048576 bunches.
-/
import Derived.Test.YtkmfjadlobpbkaaMC
import Derived.Test.YtkmfjadlobpbkaaSC
import Derived.Deep.RegionHeld3
namespace Go.Proofs.Ytkmfjadlobpbkaa
open Go.RowKit

/-- a struct of two cells that may be written -/
def Two (W : World) (b : Nat) (u v : Value) : Prop :=
  (W.cell? ⟨b, 0, none⟩ = some u ∧ W.cell? ⟨b, 1, none⟩ = some v) ∧ W.frozen? ⟨b, 0, none⟩ = false ∧ W.frozen? ⟨b, 1, none⟩ = false
theorem Two.below {W W' : World} {B b : Nat} {u v : Value} (h : Two W b u v) (hb : Below B W W') (hB : b < B) : Two W' b u v :=
  ⟨⟨(hb.cell (p := ⟨b, 0, none⟩) hB).trans h.1.1, (hb.cell (p := ⟨b, 1, none⟩) hB).trans h.1.2⟩, (hb.frozen (p := ⟨b, 0, none⟩) hB).trans h.2.1, (hb.frozen (p := ⟨b, 1, none⟩) hB).trans h.2.2⟩

theorem cell_set_otherD (w : World) (a b : Addr) (v : Value) (h : a ≠ b) : (w.setCell a v).cell? b = w.cell? b := by
  first | exact World.cell?_setCell_other w h | exact World.cell?_setCell_other w v h | exact World.cell?_setCell_other w a b v h
theorem Two.put {W : World} {b : Nat} {u v u' v' : Value} (h : Two W b u v) : Two ((W.setCell ⟨b, 0, none⟩ u').setCell ⟨b, 1, none⟩ v') b u' v' := by
  have n1 : (⟨b, 1, none⟩ : Addr) ≠ ⟨b, 0, none⟩ := by intro h; injection h; omega
  refine ⟨⟨?_, ?_⟩, ?_, ?_⟩
  · rw [cell_set_otherD _ _ _ _ n1]; exact cell_set_same _ _ _ _ h.1.1
  · exact cell_set_same _ _ v _ (by rw [cell_set_otherD _ _ _ _ n1.symm]; exact h.1.2)
  · rw [frozen_set, frozen_set]; exact h.2.1
  · rw [frozen_set, frozen_set]; exact h.2.2
theorem Two.putOther {W : World} {b c p q : Nat} {u v x y : Value} (h : Two W b u v) (hc : c ≠ b) : Two ((W.setCell ⟨c, p, none⟩ x).setCell ⟨c, q, none⟩ y) b u v := by
  have n1 : ∀ o r, (⟨c, o, none⟩ : Addr) ≠ ⟨b, r, none⟩ := by intro o r h; injection h; omega
  refine ⟨⟨?_, ?_⟩, ?_, ?_⟩
  · rw [cell_set_otherD _ _ _ _ (n1 _ _), cell_set_otherD _ _ _ _ (n1 _ _)]; exact h.1.1
  · rw [cell_set_otherD _ _ _ _ (n1 _ _), cell_set_otherD _ _ _ _ (n1 _ _)]; exact h.1.2
  · rw [frozen_set, frozen_set]; exact h.2.1
  · rw [frozen_set, frozen_set]; exact h.2.2


end Go.Proofs.Ytkmfjadlobpbkaa
