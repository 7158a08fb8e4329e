/-
  Contracts: a code made of lengths, of both.
  Conditions: lengths at most 1048576.
-/
import Derived.Test.YtkmfjadlobpbkaaVC
import Derived.Test.YtkmfjadlobpbkaaH
import Derived.Handy
namespace Go.Proofs.Ytkmfjadlobpbkaa
open Go.RowKit

/-- a code that may be none, as two results -/
def asV (A : Option Addr) (n cap : Nat) : Bool → Value
  | true => .tuple #[.agg #[.slice A n cap], .bool true]
  | false => .tuple #[.agg #[.slice none 0 0], .bool false]


set_option maxRecDepth 100000 in
theorem impl_asCode_c (w : World) (A : Option Addr) (n cap : Nat) (xs : List Int) (hl : xs.length = n) (hn : n ≤ 1048576) (hx : Sl w w.heap.size A (xs.map (Value.int .i64))) :
    Calls Try.prog 25 #[.slice A n cap] w fun e w' => e = .returned (asV A n cap (codeB xs)) ∧ Below w.heap.size w w' := by
  obtain ⟨w0, e0⟩ : ∃ q : World, q = (w.alloc (.cells #[.slice none 0 0] 24)).alloc (.cells #[.slice A n cap] 24) := ⟨_, rfl⟩
  have hb0 : Below w.heap.size w w0 := by rw [e0]; exact ((Below.refl _ _).alloc (Nat.le_refl _) _).alloc (by simp) _
  have hz0 : w0.heap.size = w.heap.size + 2 := by rw [e0]; simp
  have c0 : w0.cell? ⟨w.heap.size, 0, none⟩ = some (.slice none 0 0) := by rw [e0]; (first | (simp; done) | (simp (disch := (first | (simp; done) | (simp; omega))) [World.cell?_alloc_at]; done) | (simp (disch := (first | (simp; done) | (simp; omega))) [World.cell?_alloc_past]; done) | (simp (disch := (first | (simp; done) | (simp; omega))) [World.cell?_alloc_at, World.cell?_alloc_past]; done) | (simp (disch := (first | (simp; done) | (simp; omega))) [World.frozen?_alloc_at]; done) | (simp (disch := (first | (simp; done) | (simp; omega))) [World.frozen?_alloc_past]; done) | (simp (disch := (first | (simp; done) | (simp; omega))) [World.frozen?_alloc_at, World.frozen?_alloc_past]; done))
  have f0 : w0.frozen? ⟨w.heap.size, 0, none⟩ = false := by rw [e0]; (first | (simp; done) | (simp (disch := (first | (simp; done) | (simp; omega))) [World.cell?_alloc_at]; done) | (simp (disch := (first | (simp; done) | (simp; omega))) [World.cell?_alloc_past]; done) | (simp (disch := (first | (simp; done) | (simp; omega))) [World.cell?_alloc_at, World.cell?_alloc_past]; done) | (simp (disch := (first | (simp; done) | (simp; omega))) [World.frozen?_alloc_at]; done) | (simp (disch := (first | (simp; done) | (simp; omega))) [World.frozen?_alloc_past]; done) | (simp (disch := (first | (simp; done) | (simp; omega))) [World.frozen?_alloc_at, World.frozen?_alloc_past]; done))
  have c1 : w0.cell? ⟨w.heap.size + 1, 0, none⟩ = some (.slice A n cap) := by rw [e0]; (first | (simp; done) | (simp (disch := (first | (simp; done) | (simp; omega))) [World.cell?_alloc_at]; done) | (simp (disch := (first | (simp; done) | (simp; omega))) [World.cell?_alloc_past]; done) | (simp (disch := (first | (simp; done) | (simp; omega))) [World.cell?_alloc_at, World.cell?_alloc_past]; done) | (simp (disch := (first | (simp; done) | (simp; omega))) [World.frozen?_alloc_at]; done) | (simp (disch := (first | (simp; done) | (simp; omega))) [World.frozen?_alloc_past]; done) | (simp (disch := (first | (simp; done) | (simp; omega))) [World.frozen?_alloc_at, World.frozen?_alloc_past]; done))
  have hx0 := (hx.below hb0).more hb0.size
  have HV := Lib.hid (impl_ValidCode_c w0 A n cap xs hl hn hx0)
  clear hx hx0
  go_enter Try.func25, Try.ntmps25
  go_wp2_with fail
  rw [← e0]
  clear e0
  refine HV.out.mono ?_
  rintro e w1 ⟨rfl, hb1⟩
  have d0 := (hb1.cell (p := ⟨w.heap.size, 0, none⟩) (by simp only []; omega)).trans c0
  have f0 := (hb1.frozen (p := ⟨w.heap.size, 0, none⟩) (by simp only []; omega)).trans f0
  have d1 := (hb1.cell (p := ⟨w.heap.size + 1, 0, none⟩) (by simp only []; omega)).trans c1
  have hB1 := hb0.trans (hb1.mono hb0.size)
  have hz1 := hb1.size
  have hlt : w.heap.size < w1.heap.size := by omega
  clear c0 c1
  cases hc : codeB xs
  · have HC := Lib.hid hc
    clear hc
    go_wp2
    refine bodyPost_ret (v := .tuple #[.agg #[.slice none 0 0], .bool false]) (by unfold results; rw [Try.results25]; go_simp) rfl ?_
    exact ⟨by rw [HC.out]; rfl, hB1.setCell (p := ⟨w.heap.size, 0, none⟩) (Nat.le_refl _) _⟩
  · have HC := Lib.hid hc
    clear hc
    go_wp2
    refine bodyPost_ret (v := .tuple #[.agg #[.slice A n cap], .bool true]) (by unfold results; rw [Try.results25]; go_simp) rfl ?_
    exact ⟨by rw [HC.out]; rfl, hB1.setCell (p := ⟨w.heap.size, 0, none⟩) (Nat.le_refl _) _⟩


set_option maxRecDepth 100000 in
theorem spec_l04Give_c (w : World) (A : Option Addr) (n cap : Nat) (xs : List Int) (hl : xs.length = n) (hn : n ≤ 1048576) (hx : Sl w w.heap.size A (xs.map (Value.int .i64))) :
    Calls Try.prog 14 #[.slice A n cap] w fun e w' => e = .returned (asV A n cap (codeB xs)) ∧ Below w.heap.size w w' := by
  obtain ⟨w0, e0⟩ : ∃ q : World, q = (w.alloc (.cells #[.slice none 0 0] 24)).alloc (.cells #[.slice A n cap] 24) := ⟨_, rfl⟩
  have hb0 : Below w.heap.size w w0 := by rw [e0]; exact ((Below.refl _ _).alloc (Nat.le_refl _) _).alloc (by simp) _
  have hz0 : w0.heap.size = w.heap.size + 2 := by rw [e0]; simp
  have c0 : w0.cell? ⟨w.heap.size, 0, none⟩ = some (.slice none 0 0) := by rw [e0]; (first | (simp; done) | (simp (disch := (first | (simp; done) | (simp; omega))) [World.cell?_alloc_at]; done) | (simp (disch := (first | (simp; done) | (simp; omega))) [World.cell?_alloc_past]; done) | (simp (disch := (first | (simp; done) | (simp; omega))) [World.cell?_alloc_at, World.cell?_alloc_past]; done) | (simp (disch := (first | (simp; done) | (simp; omega))) [World.frozen?_alloc_at]; done) | (simp (disch := (first | (simp; done) | (simp; omega))) [World.frozen?_alloc_past]; done) | (simp (disch := (first | (simp; done) | (simp; omega))) [World.frozen?_alloc_at, World.frozen?_alloc_past]; done))
  have f0 : w0.frozen? ⟨w.heap.size, 0, none⟩ = false := by rw [e0]; (first | (simp; done) | (simp (disch := (first | (simp; done) | (simp; omega))) [World.cell?_alloc_at]; done) | (simp (disch := (first | (simp; done) | (simp; omega))) [World.cell?_alloc_past]; done) | (simp (disch := (first | (simp; done) | (simp; omega))) [World.cell?_alloc_at, World.cell?_alloc_past]; done) | (simp (disch := (first | (simp; done) | (simp; omega))) [World.frozen?_alloc_at]; done) | (simp (disch := (first | (simp; done) | (simp; omega))) [World.frozen?_alloc_past]; done) | (simp (disch := (first | (simp; done) | (simp; omega))) [World.frozen?_alloc_at, World.frozen?_alloc_past]; done))
  have c1 : w0.cell? ⟨w.heap.size + 1, 0, none⟩ = some (.slice A n cap) := by rw [e0]; (first | (simp; done) | (simp (disch := (first | (simp; done) | (simp; omega))) [World.cell?_alloc_at]; done) | (simp (disch := (first | (simp; done) | (simp; omega))) [World.cell?_alloc_past]; done) | (simp (disch := (first | (simp; done) | (simp; omega))) [World.cell?_alloc_at, World.cell?_alloc_past]; done) | (simp (disch := (first | (simp; done) | (simp; omega))) [World.frozen?_alloc_at]; done) | (simp (disch := (first | (simp; done) | (simp; omega))) [World.frozen?_alloc_past]; done) | (simp (disch := (first | (simp; done) | (simp; omega))) [World.frozen?_alloc_at, World.frozen?_alloc_past]; done))
  have hx0 := (hx.below hb0).more hb0.size
  have HV := Lib.hid (spec_l04Is_c w0 (w.heap.size + 1) 0 _ A n cap xs c1 hl hn hx0)
  clear hx hx0
  go_enter Try.func14, Try.ntmps14
  go_wp2_with fail
  rw [← e0]
  clear e0
  refine HV.out.mono ?_
  rintro e w1 ⟨rfl, rfl⟩
  have hlt : w.heap.size < w0.heap.size := by omega
  cases hc : codeB xs
  · have HC := Lib.hid hc
    clear hc
    go_wp2
    refine bodyPost_ret (v := .tuple #[.agg #[.slice none 0 0], .bool false]) (by unfold results; rw [Try.results14]; go_simp) rfl ?_
    exact ⟨by rw [HC.out]; rfl, hb0.setCell (p := ⟨w.heap.size, 0, none⟩) (Nat.le_refl _) _⟩
  · have HC := Lib.hid hc
    clear hc
    go_wp2
    refine bodyPost_ret (v := .tuple #[.agg #[.slice A n cap], .bool true]) (by unfold results; rw [Try.results14]; go_simp) rfl ?_
    exact ⟨by rw [HC.out]; rfl, hb0.setCell (p := ⟨w.heap.size, 0, none⟩) (Nat.le_refl _) _⟩

end Go.Proofs.Ytkmfjadlobpbkaa
