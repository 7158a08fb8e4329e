/-
  An argument that is a code, opened.
  Conditions: none.
-/
import Derived.Test.YthccklkonfappaaDoorOP
namespace Go.Proofs.YthccklkonfappaaDoor
open Go.ChangeShapes Go.WideShapes Go.ChangeAt Go.RowKit

theorem array1 {α : Type} {cs : Array α} (h : cs.size = 1) : ∃ c0, cs = #[c0] := by
  obtain ⟨l⟩ := cs
  match l, h with
  | [c0], _ => exact ⟨c0, rfl⟩

set_option maxRecDepth 100000 in
theorem open_Code {H : Type} {enc : TypeId × Value → H} {w : World} {r : Reach} {b0 : Nat} {v : Value} {d : DataW H} {p : List MemPlace} (hval : Value.okWide Tryd.prog w r b0 24 v) (h : DataW.Trod enc Tryd.prog w 0 (fun _ => true) true 24 v d p) :
    ∃ (A : Option Addr) (n cap : Nat) (xs : List Int), v = .agg #[.slice A n cap] ∧ xs.length = n ∧ n ≤ maxLen ∧ Sl w w.heap.size A (xs.map (Value.int .i64)) := by
  have k0 : Tryd.prog.cellsOf 22 = 1 := by kernel_rfl
  have kC : Tryd.prog.cellsOf 24 = 1 := by kernel_rfl
  obtain ⟨cs, rfl, hsz⟩ := okWide_struct Tryd.underlying24 hval
  obtain ⟨c0, rfl⟩ := array1 (hsz.trans kC)
  obtain ⟨fuel, hf⟩ := h
  obtain ⟨xs, n, _, _, _, hlen, hg⟩ := DataW.trod_struct Tryd.underlying24 hf
  have h0 := hg 0 _ rfl
  simp [k0, Value.cells] at h0
  match xs, hlen with
  | [y0], _ =>
    obtain ⟨A, n, cap, ys, rfl, hl, hc, hc2, _, hx⟩ := open_i64s_trod (h0.trans rfl)
    exact ⟨A, n, cap, ys, rfl, hl, Nat.le_trans hc hc2, hx⟩

end Go.Proofs.YthccklkonfappaaDoor
