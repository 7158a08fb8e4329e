/-
  A slice of bytes as an argument, opened.
  Conditions: none.
-/
import Derived.Test.YtldnhflgpbcmeaaO
namespace Go.Proofs.Ytldnhflgpbcmeaa
open Go.ChangeShapes Go.WideShapes Go.ChangeAt Go.RowKit

theorem cells_u8 : Try.prog.cellsOf 5 = 1 := by kernel_rfl
set_option maxRecDepth 100000 in
theorem open_u8s {H : Type} {enc : TypeId × Value → H} {w : World} {r : Reach} {b0 : Nat} {v : Value} {d : DataW H} {p : List MemPlace} (hval : Value.okWide Try.prog w r b0 22 v) (h : DataW.Trod enc Try.prog w 0 (fun _ => true) true 22 v d p) :
    ∃ (A : Option Addr) (n cap : Nat) (xs : List Int), v = .slice A n cap ∧ xs.length = n ∧ n ≤ cap ∧ cap ≤ maxLen ∧ (∀ a ∈ xs, (Lit.int .u8 a).wf = true) ∧ Sl w w.heap.size A (xs.map (Value.int .u8)) := by
  have h1 := @open_sl H enc Try.prog Int _ (Value.int .u8) (fun a => (Lit.int .u8 a).wf = true) 22 5 Try.underlying22 cells_u8 w
  have h2 := @elem_int H enc Try.prog w 5 .u8 Try.underlying5
  have h3 := @h1 h2 r b0 v d p
  exact h3 hval h
theorem wf_u8 {a : Int} (h : (Lit.int .u8 a).wf = true) : 0 ≤ a ∧ a ≤ 255 := by
  have e1 : IntKind.u8.min = 0 := rfl
  have e2 : IntKind.u8.max = 255 := rfl
  simp [Lit.wf, e1, e2] at h
  omega

end Go.Proofs.Ytldnhflgpbcmeaa
