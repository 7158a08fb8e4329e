/-
  Desks opened.
  Conditions: none.
-/
import Derived.Test.YtkhaiajeiiocmaaDoorOD
import Derived.Test.YtkhaiajeiiocmaaDoorF
namespace Go.Proofs.YtkhaiajeiiocmaaDoor
open Go.ChangeShapes Go.WideShapes Go.ChangeAt Go.RowKit


theorem array5 {α : Type} {cs : Array α} (h : cs.size = 5) : ∃ c0 c1 c2 c3 c4, cs = #[c0, c1, c2, c3, c4] := by
  obtain ⟨l⟩ := cs
  match l, h with
  | [c0, c1, c2, c3, c4], _ => exact ⟨c0, c1, c2, c3, c4, rfl⟩
set_option maxRecDepth 100000 in
theorem open_Code_trod {H : Type} {enc : TypeId × Value → H} {w : World} {v : Value} {fuel : Nat} {y : DataW H × List MemPlace} (h : DataW.trod enc Tryd.prog w 0 (fun _ => true) true fuel 25 [v] = some y) :
    ∃ (A : Option Addr) (n cap : Nat) (xs : List Int), v = .slice A n cap ∧ xs.length = n ∧ n ≤ maxLen ∧ Sl w w.heap.size A (xs.map (Value.int .i64)) := by
  have k0 : Tryd.prog.cellsOf 23 = 1 := by kernel_rfl
  obtain ⟨xs, n, _, _, _, hlen, hf⟩ := DataW.trod_struct Tryd.underlying25 h
  have h0 := hf 0 _ rfl
  simp [k0] at h0
  match xs, hlen with
  | [y0], _ =>
    obtain ⟨A, n, cap, xs, hv, hl, hc, hc2, _, hx⟩ := open_i64s_trod (h0.trans rfl)
    exact ⟨A, n, cap, xs, hv, hl, Nat.le_trans hc hc2, hx⟩
set_option maxRecDepth 100000 in
theorem open_Parity_trod {H : Type} {enc : TypeId × Value → H} {w : World} {u v : Value} {fuel : Nat} {y : DataW H × List MemPlace} (h : DataW.trod enc Tryd.prog w 0 (fun _ => true) true fuel 27 [u, v] = some y) :
    ∃ (m : Int) (A : Option Addr) (n cap : Nat) (xs : List Int), u = .int .i64 m ∧ v = .slice A n cap ∧ xs.length = n ∧ n ≤ maxLen ∧ Sl w w.heap.size A (xs.map (Value.int .i64)) := by
  have k0 : Tryd.prog.cellsOf 23 = 1 := by kernel_rfl
  have k1 : Tryd.prog.cellsOf 2 = 1 := by kernel_rfl
  obtain ⟨xs, n, _, _, _, hlen, hf⟩ := DataW.trod_struct Tryd.underlying27 h
  have h0 := hf 0 _ rfl
  have h1 := hf 1 _ rfl
  simp [k1] at h0
  simp [k0] at h1
  match xs, hlen with
  | [y0, y1], _ =>
    obtain ⟨m, hm, _, _⟩ := DataW.trod_int Tryd.underlying2 (h0.trans rfl)
    obtain ⟨A, n, cap, xs, hv, hl, hc, hc2, _, hx⟩ := open_i64s_trod (h1.trans rfl)
    exact ⟨m, A, n, cap, xs, by simpa using hm, hv, hl, Nat.le_trans hc hc2, hx⟩
set_option maxRecDepth 100000 in
theorem open_Desk {H : Type} {enc : TypeId × Value → H} {w : World} {r : Reach} {b0 : Nat} {v : Value} {d : DataW H} {p : List MemPlace} (hval : Value.okWide Tryd.prog w r b0 29 v) (h : DataW.Trod enc Tryd.prog w 0 (fun _ => true) true 29 v d p) :
    ∃ (A0 : Option Addr) (n0 cap0 : Nat) (x0 : List Nat) (A1 : Option Addr) (n1 cap1 : Nat) (x1 : List Int) (a2 : Int) (A3 : Option Addr) (n3 cap3 : Nat) (x3 : List Int) (a4 : ByteArray), v = .agg #[.slice A0 n0 cap0, .slice A1 n1 cap1, .int .i64 a2, .slice A3 n3 cap3, .string a4] ∧
      x0.length = n0 ∧ n0 ≤ maxLen ∧ Sl w w.heap.size A0 (x0.map (Value.float .f32)) ∧ (∀ x ∈ x0, x < 4294967296) ∧ x1.length = n1 ∧ n1 ≤ maxLen ∧ Sl w w.heap.size A1 (x1.map (Value.int .i64)) ∧ x3.length = n3 ∧ n3 ≤ maxLen ∧ Sl w w.heap.size A3 (x3.map (Value.int .i64)) ∧ a4.size ≤ maxLen := by
  have k0 : Tryd.prog.cellsOf 22 = 1 := by kernel_rfl
  have k1 : Tryd.prog.cellsOf 25 = 1 := by kernel_rfl
  have k2 : Tryd.prog.cellsOf 27 = 2 := by kernel_rfl
  have k3 : Tryd.prog.cellsOf 9 = 1 := by kernel_rfl
  obtain ⟨cs, rfl, hsz⟩ := okWide_struct Tryd.underlying29 hval
  obtain ⟨c0, c1, c2, c3, c4, rfl⟩ := array5 (hsz.trans (by kernel_rfl))
  obtain ⟨fuel, hf⟩ := h
  obtain ⟨y0, y1, y2, y3, n, _, _, h0, h1, h2, h3⟩ := Joins.trod_struct4 Tryd.underlying29 hf
  simp [Value.cells, k0] at h0
  simp [Value.cells, k1] at h1
  simp [Value.cells, k2] at h2
  simp [Value.cells, k3] at h3
  obtain ⟨A0, n0, cap0, x0, rfl, hl0, hc0, hd0, hw0, hx0⟩ := open_f32s_trod h0
  obtain ⟨A1, n1, cap1, x1, rfl, hl1, hc1, hx1⟩ := open_Code_trod h1
  obtain ⟨a2, A3, n3, cap3, x3, rfl, rfl, hl3, hc3, hx3⟩ := open_Parity_trod h2
  obtain ⟨a4, hs, _, hz⟩ := DataW.trod_string Tryd.underlying9 h3
  obtain rfl : c4 = .string a4 := by simpa using hs
  exact ⟨A0, n0, cap0, x0, A1, n1, cap1, x1, a2, A3, n3, cap3, x3, a4, rfl, hl0, Nat.le_trans hc0 hd0, hx0, fun x hx => wf32.1 (hw0 x hx), hl1, hc1, hx1, hl3, hc3, hx3, hz⟩

end Go.Proofs.YtkhaiajeiiocmaaDoor
