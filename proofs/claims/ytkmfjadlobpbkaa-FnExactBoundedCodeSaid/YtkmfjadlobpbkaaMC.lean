/-
  Contracts: the first bunch of the least weight is found again.
  Conditions: 1 to 1048576 bunches.
-/
import Derived.Test.YtkmfjadlobpbkaaMB
namespace Go.Proofs.Ytkmfjadlobpbkaa
open Go.RowKit

/-- bunches, to be read: a weight and a slice, two cells each -/
def Bun (W : World) (B b off : Nat) (ws : List Int) (us : List Value) : Prop :=
  b < B ∧ us.length = ws.length ∧ ∀ i, i < ws.length → W.cell? ⟨b, off + i * 2, none⟩ = some (.int .i64 (ws.getD i 0)) ∧ W.cell? ⟨b, off + i * 2 + 1, none⟩ = some (us.getD i undef)
theorem Bun.below {W W' : World} {B b off : Nat} {ws : List Int} {us : List Value} (h : Bun W B b off ws us) (hb : Below B W W') : Bun W' B b off ws us :=
  ⟨h.1, h.2.1, fun i hi => ⟨(hb.cell (p := ⟨b, off + i * 2, none⟩) h.1).trans (h.2.2 i hi).1, (hb.cell (p := ⟨b, off + i * 2 + 1, none⟩) h.1).trans (h.2.2 i hi).2⟩⟩



end Go.Proofs.Ytkmfjadlobpbkaa
