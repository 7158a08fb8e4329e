/-
  Rows of rows of numbers of single precision opened.
  Conditions: none.
-/
import Derived.Test.YtlhffpjbjicfnaaO
import Derived.Test.YtlhffpjbjicfnaaNF
namespace Go.Proofs.Ytlhffpjbjicfnaa
open Go.ChangeShapes Go.WideShapes Go.ChangeAt Go.RowKit

theorem cells_f32s : Try.prog.cellsOf 25 = 1 := by kernel_rfl
set_option maxRecDepth 100000 in
theorem open_f32s_trod {H : Type} {enc : TypeId × Value → H} {w : World} {v : Value} {fuel : Nat} {y : DataW H × List MemPlace} (h : DataW.trod enc Try.prog w 0 (fun _ => true) true fuel 25 [v] = some y) :
    ∃ (A : Option Addr) (n cap : Nat) (xs : List Nat), v = .slice A n cap ∧ xs.length = n ∧ n ≤ cap ∧ cap ≤ maxLen ∧ (∀ a ∈ xs, (Lit.float .f32 a).wf = true) ∧ Sl w w.heap.size A (xs.map (Value.float .f32)) := by
  have h1 := @open_sl_trod H enc Try.prog Nat _ (Value.float .f32) (fun a => (Lit.float .f32 a).wf = true) 25 28 Try.underlying25 cells_f32 w
  have h2 := @elem_float H enc Try.prog w 28 .f32 Try.underlying28
  have h3 := @h1 h2 v fuel y
  exact h3 h
set_option maxRecDepth 100000 in
theorem open_f32ss {H : Type} {enc : TypeId × Value → H} {w : World} {r : Reach} {b0 : Nat} {v : Value} {d : DataW H} {p : List MemPlace} (hval : Value.okWide Try.prog w r b0 43 v) (h : DataW.Trod enc Try.prog w 0 (fun _ => true) true 43 v d p) :
    ∃ (A : Option Addr) (n cap : Nat) (rs : List RowHF), v = .slice A n cap ∧ rs.length = n ∧ n ≤ maxLen ∧ (∀ r ∈ rs, r.2.2.length ≤ maxLen) ∧ Sl2F w w.heap.size A rs := by
  have h1 := @open_sl H enc Try.prog RowHF _ rowVF (fun a => a.2.2.length ≤ maxLen ∧ Sl w w.heap.size a.1 (a.2.2.map (Value.float .f32))) 43 25 Try.underlying43 cells_f32s w
  have h2 : ∀ (n : Nat) (v : Value) (x : DataW H × List MemPlace), DataW.trod enc Try.prog w 0 (fun _ => true) true n 25 [v] = some x → ∃ a : RowHF, v = rowVF a ∧ a.2.2.length ≤ maxLen ∧ Sl w w.heap.size a.1 (a.2.2.map (Value.float .f32)) := by
    intro n v x hx
    obtain ⟨A, n, cap, xs, rfl, hl, hc, hm, _, hs⟩ := open_f32s_trod hx
    subst hl
    exact ⟨(A, cap, xs), rfl, Nat.le_trans hc hm, hs⟩
  obtain ⟨A, n, cap, rs, rfl, hl, hc, hc2, hg, hs⟩ := @h1 h2 r b0 v d p hval h
  exact ⟨A, n, cap, rs, rfl, hl, Nat.le_trans hc hc2, fun r hr => (hg r hr).1, hs, fun r hr => (hg r hr).2⟩

end Go.Proofs.Ytlhffpjbjicfnaa
