/-
  Graphs opened.
  Conditions: none.
-/
import Derived.Test.YtpdblaldndmdoaaO
import Derived.Test.YtpdblaldndmdoaaNN
namespace Go.Proofs.Ytpdblaldndmdoaa
open Go.ChangeShapes Go.WideShapes Go.ChangeAt Go.RowKit

theorem cells_i64s : Try.prog.cellsOf 36 = 1 := by kernel_rfl
set_option maxRecDepth 100000 in
theorem open_i64ss_trod {H : Type} {enc : TypeId × Value → H} {w : World} {v : Value} {fuel : Nat} {y : DataW H × List MemPlace} (h : DataW.trod enc Try.prog w 0 (fun _ => true) true fuel 22 [v] = some y) :
    ∃ (A : Option Addr) (n cap : Nat) (rs : List RowH), v = .slice A n cap ∧ rs.length = n ∧ n ≤ cap ∧ cap ≤ maxLen ∧ (∀ a ∈ rs, a.2.2.length ≤ maxLen ∧ Sl w w.heap.size a.1 (a.2.2.map (Value.int .i64))) ∧ Sl w w.heap.size A (rs.map rowV) := by
  have h1 := @open_sl_trod H enc Try.prog RowH _ rowV (fun a => a.2.2.length ≤ maxLen ∧ Sl w w.heap.size a.1 (a.2.2.map (Value.int .i64))) 22 36 Try.underlying22 cells_i64s w
  have h2 : ∀ (n : Nat) (v : Value) (x : DataW H × List MemPlace), DataW.trod enc Try.prog w 0 (fun _ => true) true n 36 [v] = some x → ∃ a : RowH, v = rowV a ∧ a.2.2.length ≤ maxLen ∧ Sl w w.heap.size a.1 (a.2.2.map (Value.int .i64)) := by
    intro n v x hx
    obtain ⟨A, n, cap, xs, rfl, hl, hc, hm, _, hs⟩ := open_i64s_trod hx
    subst hl
    exact ⟨(A, cap, xs), rfl, Nat.le_trans hc hm, hs⟩
  exact h1 h2 h

set_option maxRecDepth 100000 in
theorem open_Graph {H : Type} {enc : TypeId × Value → H} {w : World} {r : Reach} {b0 : Nat} {v : Value} {d : DataW H} {p : List MemPlace} (hval : Value.okWide Try.prog w r b0 24 v) (h : DataW.Trod enc Try.prog w 0 (fun _ => true) true 24 v d p) :
    ∃ (m : Int) (A : Option Addr) (n cap : Nat) (rs : List RowH), v = .agg #[.int .i64 m, .slice A n cap] ∧ rs.length = n ∧ n ≤ maxLen ∧ (∀ r ∈ rs, r.2.2.length ≤ maxLen) ∧ Sl2 w w.heap.size A rs := by
  obtain ⟨v0, v1, y0, y1, n, rfl, _, _, h0, h1⟩ := Joins.open_agg2 Try.underlying24 (by kernel_rfl) (by kernel_rfl) hval h
  obtain ⟨m, hm, _, _⟩ := DataW.trod_int Try.underlying2 h0
  obtain ⟨A, n, cap, rs, rfl, hl, hc, hc2, hg, hs⟩ := open_i64ss_trod h1
  obtain rfl : v0 = .int .i64 m := by simpa using hm
  exact ⟨m, A, n, cap, rs, rfl, hl, Nat.le_trans hc hc2, fun r hr => (hg r hr).1, hs, fun r hr => (hg r hr).2⟩

end Go.Proofs.Ytpdblaldndmdoaa
