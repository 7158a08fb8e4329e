/-
  An argument that is a code of rows, opened.
  Conditions: none.
-/
import Derived.Test.YthccklkonfappaaDoorO
namespace Go.Proofs.YthccklkonfappaaDoor
open Go.ChangeShapes Go.WideShapes Go.ChangeAt Go.RowKit

set_option maxRecDepth 100000 in
theorem open_Parity {H : Type} {enc : TypeId × Value → H} {w : World} {r : Reach} {b0 : Nat} {v : Value} {d : DataW H} {p : List MemPlace} (hval : Value.okWide Tryd.prog w r b0 33 v) (h : DataW.Trod enc Tryd.prog w 0 (fun _ => true) true 33 v d p) :
    ∃ (m : Int) (A : Option Addr) (n cap : Nat) (xs : List Int), v = .agg #[.int .i64 m, .slice A n cap] ∧ xs.length = n ∧ n ≤ maxLen ∧ Sl w w.heap.size A (xs.map (Value.int .i64)) := by
  obtain ⟨v0, v1, y0, y1, n, rfl, _, _, h0, h1⟩ := Joins.open_agg2 Tryd.underlying33 (by kernel_rfl) (by kernel_rfl) hval h
  obtain ⟨m, hm, _, _⟩ := DataW.trod_int Tryd.underlying2 h0
  obtain ⟨A, n, cap, xs, rfl, hl, hc, hc2, _, hs⟩ := open_i64s_trod h1
  obtain rfl : v0 = .int .i64 m := by simpa using hm
  exact ⟨m, A, n, cap, xs, rfl, hl, Nat.le_trans hc hc2, hs⟩

end Go.Proofs.YthccklkonfappaaDoor
