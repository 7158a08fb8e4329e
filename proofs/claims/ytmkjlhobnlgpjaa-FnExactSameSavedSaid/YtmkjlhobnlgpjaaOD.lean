/-
  Saved ones opened.
  Conditions: none.
-/
import Derived.Test.YtmkjlhobnlgpjaaO
namespace Go.Proofs.Ytmkjlhobnlgpjaa
open Go.ChangeShapes Go.WideShapes Go.ChangeAt Go.RowKit

set_option maxRecDepth 100000 in
theorem open_bools_trod {H : Type} {enc : TypeId × Value → H} {w : World} {v : Value} {fuel : Nat} {y : DataW H × List MemPlace} (h : DataW.trod enc Try.prog w 0 (fun _ => true) true fuel 28 [v] = some y) :
    ∃ (A : Option Addr) (n cap : Nat) (xs : List Bool), v = .slice A n cap ∧ xs.length = n ∧ n ≤ cap ∧ cap ≤ maxLen ∧ (∀ a ∈ xs, True) ∧ Sl w w.heap.size A (xs.map Value.bool) :=
  open_sl_trod Value.bool (fun _ => True) Try.underlying28 cells_bool (elem_bool Try.underlying4) h


set_option maxRecDepth 100000 in
theorem open_f32s_trod {H : Type} {enc : TypeId × Value → H} {w : World} {v : Value} {fuel : Nat} {y : DataW H × List MemPlace} (h : DataW.trod enc Try.prog w 0 (fun _ => true) true fuel 29 [v] = some y) :
    ∃ (A : Option Addr) (n cap : Nat) (xs : List Nat), v = .slice A n cap ∧ xs.length = n ∧ n ≤ cap ∧ cap ≤ maxLen ∧ (∀ a ∈ xs, (Lit.float .f32 a).wf = true) ∧ Sl w w.heap.size A (xs.map (Value.float .f32)) :=
  open_sl_trod (Value.float .f32) (fun a => (Lit.float .f32 a).wf = true) Try.underlying29 cells_f32 (elem_float Try.underlying58) h


set_option maxRecDepth 100000 in
theorem open_Saved {H : Type} {enc : TypeId × Value → H} {w : World} {r : Reach} {b0 : Nat} {v : Value} {d : DataW H} {p : List MemPlace} (hval : Value.okWide Try.prog w r b0 31 v) (h : DataW.Trod enc Try.prog w 0 (fun _ => true) true 31 v d p) :
    ∃ (s : ByteArray) (A : Option Addr) (n cap : Nat) (xs : List Bool) (A2 : Option Addr) (n2 cap2 : Nat) (ys : List Nat), v = .agg #[.string s, .slice A n cap, .slice A2 n2 cap2] ∧ s.size ≤ maxLen ∧ xs.length = n ∧ n ≤ maxLen ∧ Sl w w.heap.size A (xs.map Value.bool) ∧ ys.length = n2 ∧ n2 ≤ maxLen ∧ Sl w w.heap.size A2 (ys.map (Value.float .f32)) := by
  obtain ⟨v0, v1, v2, y0, y1, y2, n, rfl, _, _, h0, h1, h2⟩ := Joins.open_agg3 Try.underlying31 (by kernel_rfl) (by kernel_rfl) hval h
  obtain ⟨s, hs, _, hz⟩ := DataW.trod_string Try.underlying9 h0
  obtain ⟨A, n, cap, xs, rfl, hl, hc, hc2, _, hx⟩ := open_bools_trod h1
  obtain ⟨A2, n2, cap2, ys, rfl, hl2, hc3, hc4, _, hy⟩ := open_f32s_trod h2
  obtain rfl : v0 = .string s := by simpa using hs
  exact ⟨s, A, n, cap, xs, A2, n2, cap2, ys, rfl, hz, hl, Nat.le_trans hc hc2, hx, hl2, Nat.le_trans hc3 hc4, hy⟩


set_option maxRecDepth 100000 in
theorem open_SavedF {H : Type} {enc : TypeId × Value → H} {w : World} {r : Reach} {b0 : Nat} {v : Value} {d : DataW H} {p : List MemPlace} (hval : Value.okWide Try.prog w r b0 31 v) (h : DataW.Trod enc Try.prog w 0 (fun _ => true) true 31 v d p) :
    ∃ (s : ByteArray) (A : Option Addr) (n cap : Nat) (xs : List Bool) (A2 : Option Addr) (n2 cap2 : Nat) (ys : List Nat), v = .agg #[.string s, .slice A n cap, .slice A2 n2 cap2] ∧ s.size ≤ maxLen ∧ xs.length = n ∧ n ≤ maxLen ∧ Sl w w.heap.size A (xs.map Value.bool) ∧ ys.length = n2 ∧ n2 ≤ maxLen ∧ Sl w w.heap.size A2 (ys.map (Value.float .f32)) ∧ (∀ x ∈ ys, x < 4294967296) := by
  obtain ⟨v0, v1, v2, y0, y1, y2, n, rfl, _, _, h0, h1, h2⟩ := Joins.open_agg3 Try.underlying31 (by kernel_rfl) (by kernel_rfl) hval h
  obtain ⟨s, hs, _, hz⟩ := DataW.trod_string Try.underlying9 h0
  obtain ⟨A, n, cap, xs, rfl, hl, hc, hc2, _, hx⟩ := open_bools_trod h1
  obtain ⟨A2, n2, cap2, ys, rfl, hl2, hc3, hc4, hw, hy⟩ := open_f32s_trod h2
  obtain rfl : v0 = .string s := by simpa using hs
  exact ⟨s, A, n, cap, xs, A2, n2, cap2, ys, rfl, hz, hl, Nat.le_trans hc hc2, hx, hl2, Nat.le_trans hc3 hc4, hy, fun x hx => wf32.1 (hw x hx)⟩

end Go.Proofs.Ytmkjlhobnlgpjaa
