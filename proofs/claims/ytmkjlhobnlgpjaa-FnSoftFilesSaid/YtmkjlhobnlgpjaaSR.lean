/-
  Contract: the bytes of what is saved, of the reference, with its test.
  Conditions: lengths at most 1048576.
-/
import Derived.Test.YtmkjlhobnlgpjaaSQ
namespace Go.Proofs.Ytmkjlhobnlgpjaa
open Go.RowKit

set_option maxRecDepth 100000 in
set_option maxHeartbeats 1000000 in
theorem spec_StoreSaved_c (w : World) (s : ByteArray) (hs : s.size ≤ 1048576) (A : Option Addr) (n cap : Nat) (bs : List Bool) (hl : bs.length = n) (_hn : n ≤ 1048576) (hx : Sl w w.heap.size A (bs.map Value.bool)) (_hA : RowA A n cap)
    (A2 : Option Addr) (n2 cap2 : Nat) (xs : List Nat) (hl2 : xs.length = n2) (_hn2 : n2 ≤ 1048576) (hx2 : Sl w w.heap.size A2 (xs.map (Value.float .f32))) (hf : ∀ x ∈ xs, x < 4294967296) :
    Calls Try.prog 15 #[.agg #[.string s, .slice A n cap, .slice A2 n2 cap2]] w fun e w' => e = .returned (.tuple #[.string (storeR s bs xs), .bool (validSavedB s bs xs)]) ∧ Below w.heap.size w w' := by
  unfold storeR
  obtain ⟨w0, e0⟩ : ∃ q : World, q = w.alloc (.cells #[.string s, .slice A n cap, .slice A2 n2 cap2] 35) := ⟨_, rfl⟩
  have z0 : w0.heap.size = w.heap.size + 1 := by rw [e0]; simp
  have B0 : Below w.heap.size w w0 := by rw [e0]; exact (Below.refl _ _).alloc (Nat.le_refl _) _
  have c0 : w0.cell? ⟨w.heap.size, 0, none⟩ = some (.string s) := by rw [e0]; (first | (simp; done) | (simp (disch := (first | (simp; done) | (simp; omega))) [World.cell?_alloc_at]; done) | (simp (disch := (first | (simp; done) | (simp; omega))) [World.cell?_alloc_past]; done) | (simp (disch := (first | (simp; done) | (simp; omega))) [World.cell?_alloc_at, World.cell?_alloc_past]; done) | (simp (disch := (first | (simp; done) | (simp; omega))) [World.frozen?_alloc_at]; done) | (simp (disch := (first | (simp; done) | (simp; omega))) [World.frozen?_alloc_past]; done) | (simp (disch := (first | (simp; done) | (simp; omega))) [World.frozen?_alloc_at, World.frozen?_alloc_past]; done))
  have c1 : w0.cell? ⟨w.heap.size, 1, none⟩ = some (.slice A n cap) := by rw [e0]; (first | (simp; done) | (simp (disch := (first | (simp; done) | (simp; omega))) [World.cell?_alloc_at]; done) | (simp (disch := (first | (simp; done) | (simp; omega))) [World.cell?_alloc_past]; done) | (simp (disch := (first | (simp; done) | (simp; omega))) [World.cell?_alloc_at, World.cell?_alloc_past]; done) | (simp (disch := (first | (simp; done) | (simp; omega))) [World.frozen?_alloc_at]; done) | (simp (disch := (first | (simp; done) | (simp; omega))) [World.frozen?_alloc_past]; done) | (simp (disch := (first | (simp; done) | (simp; omega))) [World.frozen?_alloc_at, World.frozen?_alloc_past]; done))
  have c2 : w0.cell? ⟨w.heap.size, 2, none⟩ = some (.slice A2 n2 cap2) := by rw [e0]; (first | (simp; done) | (simp (disch := (first | (simp; done) | (simp; omega))) [World.cell?_alloc_at]; done) | (simp (disch := (first | (simp; done) | (simp; omega))) [World.cell?_alloc_past]; done) | (simp (disch := (first | (simp; done) | (simp; omega))) [World.cell?_alloc_at, World.cell?_alloc_past]; done) | (simp (disch := (first | (simp; done) | (simp; omega))) [World.frozen?_alloc_at]; done) | (simp (disch := (first | (simp; done) | (simp; omega))) [World.frozen?_alloc_past]; done) | (simp (disch := (first | (simp; done) | (simp; omega))) [World.frozen?_alloc_at, World.frozen?_alloc_past]; done))
  have hx' := (hx.below B0)
  have hx2' := (hx2.below B0)
  have hV := spec_l07Saved_c w0 w.heap.size 0 w.heap.size s hs A n cap bs hl A2 n2 cap2 xs hl2 hx2' c0 c1 c2
  cases hv : validSavedB s bs xs
  · rw [hv] at hV
    have HV := Lib.hid hV
    clear hV hv
    go_enter Try.func15, Try.ntmps15
    go_wp2_with fail
    rw [← e0]
    clear e0
    refine HV.out.mono ?_
    rintro e w1 ⟨rfl, k, rfl⟩
    go_wp2
    go_ret2
    exact ⟨rfl, below_drewN B0 _⟩
  · rw [hv] at hV
    have HV := Lib.hid hV
    obtain ⟨h8, hn8, hm8⟩ := valid_facts hv
    have hS := fun k => spec_l07Store_c (w0.drewN k) w.heap.size 0 w.heap.size s h8 A n cap bs hl (by omega) (hx'.drewN k) A2 n2 cap2 xs hl2 (by omega) (hx2'.drewN k) hf c0 c1 c2 (by show w.heap.size < w0.heap.size; omega) (by show w.heap.size ≤ w0.heap.size; omega)
    have HS := Lib.hid hS
    clear hV hv hS
    go_enter Try.func15, Try.ntmps15
    go_wp2_with fail
    rw [← e0]
    clear e0
    refine HV.out.mono ?_
    rintro e w1 ⟨rfl, k, rfl⟩
    go_wp2_with fail
    refine (HS.out k).mono ?_
    rintro e w2 ⟨rfl, hb2⟩
    go_wp2
    go_ret2
    exact ⟨rfl, (below_drewN B0 k).trans (hb2.mono (by show w.heap.size ≤ w0.heap.size; omega))⟩

end Go.Proofs.Ytmkjlhobnlgpjaa
