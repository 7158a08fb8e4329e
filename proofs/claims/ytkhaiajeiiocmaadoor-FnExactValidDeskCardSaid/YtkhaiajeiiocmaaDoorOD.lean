/-
  Saved ones opened.
  Conditions: none.
-/
import Derived.Test.YtkhaiajeiiocmaaDoorO
namespace Go.Proofs.YtkhaiajeiiocmaaDoor
open Go.ChangeShapes Go.WideShapes Go.ChangeAt Go.RowKit


set_option maxRecDepth 100000 in
theorem open_f32s_trod {H : Type} {enc : TypeId × Value → H} {w : World} {v : Value} {fuel : Nat} {y : DataW H × List MemPlace} (h : DataW.trod enc Tryd.prog w 0 (fun _ => true) true fuel 22 [v] = some y) :
    ∃ (A : Option Addr) (n cap : Nat) (xs : List Nat), v = .slice A n cap ∧ xs.length = n ∧ n ≤ cap ∧ cap ≤ maxLen ∧ (∀ a ∈ xs, (Lit.float .f32 a).wf = true) ∧ Sl w w.heap.size A (xs.map (Value.float .f32)) :=
  open_sl_trod (Value.float .f32) (fun a => (Lit.float .f32 a).wf = true) Tryd.underlying22 cells_f32 (elem_float Tryd.underlying59) h



end Go.Proofs.YtkhaiajeiiocmaaDoor
