/-
  Contract: a parity if it is valid, of the program.
  Conditions: lengths at most 1048576.
-/
import Derived.Test.YtldnhflgpbcmeaaPV
namespace Go.Proofs.Ytldnhflgpbcmeaa
open Go.RowKit

/-- a parity that may be none, as two results -/
def asP (m : Int) (A : Option Addr) (n cap : Nat) : Bool → Value
  | true => .tuple #[.agg #[.int .i64 m, .slice A n cap], .bool true]
  | false => .tuple #[.agg #[.int .i64 0, .slice none 0 0], .bool false]


set_option maxRecDepth 100000 in
theorem impl_asParity_c (w : World) (m : Int) (A : Option Addr) (n cap : Nat) (xs : List Int) (hl : xs.length = n) (hn : n ≤ 1048576) (hx : Sl w w.heap.size A (xs.map (Value.int .i64))) :
    Calls Try.prog 33 #[.int .i64 m, .slice A n cap] w fun e w' => e = .returned (asP m A n cap (validParB m xs)) ∧ Below w.heap.size w w' := by
  obtain ⟨w0, e0⟩ : ∃ q : World, q = (w.alloc (.cells #[.int .i64 0, .slice none 0 0] 27)).alloc (.cells #[.int .i64 m, .slice A n cap] 27) := ⟨_, rfl⟩
  have hb0 : Below w.heap.size w w0 := by rw [e0]; exact ((Below.refl _ _).alloc (Nat.le_refl _) _).alloc (by simp) _
  have hz0 : w0.heap.size = w.heap.size + 1 + 1 := by rw [e0]; simp
  have c0 : w0.cell? ⟨w.heap.size, 0, none⟩ = some (.int .i64 0) := by rw [e0]; (first | (simp; done) | (simp (disch := (first | (simp; done) | (simp; omega))) [World.cell?_alloc_at]; done) | (simp (disch := (first | (simp; done) | (simp; omega))) [World.cell?_alloc_past]; done) | (simp (disch := (first | (simp; done) | (simp; omega))) [World.cell?_alloc_at, World.cell?_alloc_past]; done) | (simp (disch := (first | (simp; done) | (simp; omega))) [World.frozen?_alloc_at]; done) | (simp (disch := (first | (simp; done) | (simp; omega))) [World.frozen?_alloc_past]; done) | (simp (disch := (first | (simp; done) | (simp; omega))) [World.frozen?_alloc_at, World.frozen?_alloc_past]; done))
  have c1 : w0.cell? ⟨w.heap.size, 1, none⟩ = some (.slice none 0 0) := by rw [e0]; (first | (simp; done) | (simp (disch := (first | (simp; done) | (simp; omega))) [World.cell?_alloc_at]; done) | (simp (disch := (first | (simp; done) | (simp; omega))) [World.cell?_alloc_past]; done) | (simp (disch := (first | (simp; done) | (simp; omega))) [World.cell?_alloc_at, World.cell?_alloc_past]; done) | (simp (disch := (first | (simp; done) | (simp; omega))) [World.frozen?_alloc_at]; done) | (simp (disch := (first | (simp; done) | (simp; omega))) [World.frozen?_alloc_past]; done) | (simp (disch := (first | (simp; done) | (simp; omega))) [World.frozen?_alloc_at, World.frozen?_alloc_past]; done))
  have d0 : w0.cell? ⟨w.heap.size + 1, 0, none⟩ = some (.int .i64 m) := by rw [e0]; (first | (simp; done) | (simp (disch := (first | (simp; done) | (simp; omega))) [World.cell?_alloc_at]; done) | (simp (disch := (first | (simp; done) | (simp; omega))) [World.cell?_alloc_past]; done) | (simp (disch := (first | (simp; done) | (simp; omega))) [World.cell?_alloc_at, World.cell?_alloc_past]; done) | (simp (disch := (first | (simp; done) | (simp; omega))) [World.frozen?_alloc_at]; done) | (simp (disch := (first | (simp; done) | (simp; omega))) [World.frozen?_alloc_past]; done) | (simp (disch := (first | (simp; done) | (simp; omega))) [World.frozen?_alloc_at, World.frozen?_alloc_past]; done))
  have d1 : w0.cell? ⟨w.heap.size + 1, 1, none⟩ = some (.slice A n cap) := by rw [e0]; (first | (simp; done) | (simp (disch := (first | (simp; done) | (simp; omega))) [World.cell?_alloc_at]; done) | (simp (disch := (first | (simp; done) | (simp; omega))) [World.cell?_alloc_past]; done) | (simp (disch := (first | (simp; done) | (simp; omega))) [World.cell?_alloc_at, World.cell?_alloc_past]; done) | (simp (disch := (first | (simp; done) | (simp; omega))) [World.frozen?_alloc_at]; done) | (simp (disch := (first | (simp; done) | (simp; omega))) [World.frozen?_alloc_past]; done) | (simp (disch := (first | (simp; done) | (simp; omega))) [World.frozen?_alloc_at, World.frozen?_alloc_past]; done))
  have f0 : w0.frozen? ⟨w.heap.size, 0, none⟩ = false := by rw [e0]; (first | (simp; done) | (simp (disch := (first | (simp; done) | (simp; omega))) [World.cell?_alloc_at]; done) | (simp (disch := (first | (simp; done) | (simp; omega))) [World.cell?_alloc_past]; done) | (simp (disch := (first | (simp; done) | (simp; omega))) [World.cell?_alloc_at, World.cell?_alloc_past]; done) | (simp (disch := (first | (simp; done) | (simp; omega))) [World.frozen?_alloc_at]; done) | (simp (disch := (first | (simp; done) | (simp; omega))) [World.frozen?_alloc_past]; done) | (simp (disch := (first | (simp; done) | (simp; omega))) [World.frozen?_alloc_at, World.frozen?_alloc_past]; done))
  have f1 : w0.frozen? ⟨w.heap.size, 1, none⟩ = false := by rw [e0]; (first | (simp; done) | (simp (disch := (first | (simp; done) | (simp; omega))) [World.cell?_alloc_at]; done) | (simp (disch := (first | (simp; done) | (simp; omega))) [World.cell?_alloc_past]; done) | (simp (disch := (first | (simp; done) | (simp; omega))) [World.cell?_alloc_at, World.cell?_alloc_past]; done) | (simp (disch := (first | (simp; done) | (simp; omega))) [World.frozen?_alloc_at]; done) | (simp (disch := (first | (simp; done) | (simp; omega))) [World.frozen?_alloc_past]; done) | (simp (disch := (first | (simp; done) | (simp; omega))) [World.frozen?_alloc_at, World.frozen?_alloc_past]; done))
  have hx0 := (hx.below hb0).more hb0.size
  have HV := Lib.hid (impl_ValidParity_c w0 m A n cap xs hl hn hx0)
  clear hx hx0
  go_enter Try.func33, Try.ntmps33
  go_wp2_with fail
  rw [← e0]
  clear e0
  refine HV.out.mono ?_
  rintro e w1 ⟨rfl, hb1⟩
  have c0 := (hb1.cell (p := ⟨w.heap.size, 0, none⟩) (by simp only []; omega)).trans c0
  have c1 := (hb1.cell (p := ⟨w.heap.size, 1, none⟩) (by simp only []; omega)).trans c1
  have d0 := (hb1.cell (p := ⟨w.heap.size + 1, 0, none⟩) (by simp only []; omega)).trans d0
  have d1 := (hb1.cell (p := ⟨w.heap.size + 1, 1, none⟩) (by simp only []; omega)).trans d1
  have f0 := (hb1.frozen (p := ⟨w.heap.size, 0, none⟩) (by simp only []; omega)).trans f0
  have f1 := (hb1.frozen (p := ⟨w.heap.size, 1, none⟩) (by simp only []; omega)).trans f1
  have hB1 := hb0.trans (hb1.mono hb0.size)
  clear hb1
  cases hc : validParB m xs
  · have HC := Lib.hid hc
    clear hc
    go_wp2
    refine bodyPost_ret (v := .tuple #[.agg #[.int .i64 0, .slice none 0 0], .bool false]) (by unfold results; rw [Try.results33]; go_simp) rfl ?_
    refine ⟨by rw [HC.out]; rfl, ?_⟩
    iterate 2 (refine Below.setCell ?_ (by simp <;> omega) _)
    exact hB1
  · have HC := Lib.hid hc
    clear hc
    go_wp2
    refine bodyPost_ret (v := .tuple #[.agg #[.int .i64 m, .slice A n cap], .bool true]) (by unfold results; rw [Try.results33]; go_simp) rfl ?_
    refine ⟨by rw [HC.out]; rfl, ?_⟩
    iterate 2 (refine Below.setCell ?_ (by simp <;> omega) _)
    exact hB1

end Go.Proofs.Ytldnhflgpbcmeaa
