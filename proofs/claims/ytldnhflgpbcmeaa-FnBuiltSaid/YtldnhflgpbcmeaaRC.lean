/-
  Contracts: the words of a code near to a word, of the program and of the reference.
  Conditions: lengths at most 1048576.
-/
import Derived.Test.YtldnhflgpbcmeaaRD
namespace Go.Proofs.Ytldnhflgpbcmeaa
open Go.RowKit


theorem impl_isWordOf_c (w : World) (x : Int) (M : Nat) (hM : M ≤ 16) : Calls Try.prog 36 #[.int .i64 x, .int .i64 (M : Int)] w fun e w' => e = .returned (.bool (inB x 0 (2 ^ M - 1))) ∧ w = w' := by
  have h1 := wrap16 hM
  have H1 := Lib.hid h1
  clear h1
  go_enter Try.func36, Try.ntmps36
  go_wp2_with fail
  first | rw [H1.out.2.2.2] | rw [H1.out.2.2.1]
  refine (impl_within_c _ _ _ _).mono ?_
  rintro e w' ⟨rfl, rfl⟩
  go_wp2
  go_ret
  exact ⟨rfl, rfl⟩


def canB (m : Int) (xs : List Int) (word : Int) : Bool := validParB m xs && inB word 0 (2 ^ m.toNat - 1)
set_option maxRecDepth 100000 in
set_option maxHeartbeats 1000000 in
theorem impl_has_c (w : World) (m : Int) (A : Option Addr) (n cap : Nat) (xs : List Int) (hl : xs.length = n) (hn : n ≤ 1048576) (hx : Sl w w.heap.size A (xs.map (Value.int .i64))) (word : Int) :
    Calls Try.prog 37 #[.agg #[.int .i64 m, .slice A n cap], .int .i64 word] w fun e w' => e = .returned (.bool (canB m xs word)) ∧ Below w.heap.size w w' := by
  have hB0 : Below w.heap.size w (w.alloc (.cells #[.int .i64 m, .slice A n cap] 27)) := (Below.refl _ _).alloc (Nat.le_refl _) _
  obtain ⟨w1, ew⟩ : ∃ q : World, q = w.alloc (.cells #[.int .i64 m, .slice A n cap] 27) := ⟨_, rfl⟩
  have c0 : w1.cell? ⟨w.heap.size, 0, none⟩ = some (.int .i64 m) := by rw [ew]; (first | (simp; done) | (simp (disch := (first | (simp; done) | (simp; omega))) [World.cell?_alloc_at]; done) | (simp (disch := (first | (simp; done) | (simp; omega))) [World.cell?_alloc_past]; done) | (simp (disch := (first | (simp; done) | (simp; omega))) [World.cell?_alloc_at, World.cell?_alloc_past]; done) | (simp (disch := (first | (simp; done) | (simp; omega))) [World.frozen?_alloc_at]; done) | (simp (disch := (first | (simp; done) | (simp; omega))) [World.frozen?_alloc_past]; done) | (simp (disch := (first | (simp; done) | (simp; omega))) [World.frozen?_alloc_at, World.frozen?_alloc_past]; done))
  have c1 : w1.cell? ⟨w.heap.size, 1, none⟩ = some (.slice A n cap) := by rw [ew]; (first | (simp; done) | (simp (disch := (first | (simp; done) | (simp; omega))) [World.cell?_alloc_at]; done) | (simp (disch := (first | (simp; done) | (simp; omega))) [World.cell?_alloc_past]; done) | (simp (disch := (first | (simp; done) | (simp; omega))) [World.cell?_alloc_at, World.cell?_alloc_past]; done) | (simp (disch := (first | (simp; done) | (simp; omega))) [World.frozen?_alloc_at]; done) | (simp (disch := (first | (simp; done) | (simp; omega))) [World.frozen?_alloc_past]; done) | (simp (disch := (first | (simp; done) | (simp; omega))) [World.frozen?_alloc_at, World.frozen?_alloc_past]; done))
  have z1 : w.heap.size < w1.heap.size := by rw [ew]; simp
  rw [← ew] at hB0
  have EW := Lib.hid ew
  have HX := Lib.hid hx
  clear ew hx
  cases hv : validParB m xs
  · have e1 : canB m xs word = false := by unfold canB; rw [hv]; rfl
    rw [e1]
    have HV := Lib.hid hv
    clear hv e1
    go_enter Try.func37, Try.ntmps37
    go_wp2_with fail
    rw [← EW.out]
    refine (impl_ValidParity_c w1 m A n cap xs hl hn ((HX.out.below hB0).more hB0.size)).mono ?_
    rintro e w2 ⟨rfl, hb2⟩
    rw [HV.out]
    go_wp2
    go_ret
    exact ⟨rfl, hB0.trans (hb2.mono hB0.size)⟩
  · have hpr : parRows m xs = true := by
      have hv2 := hv
      unfold validParB at hv2
      rw [Bool.and_eq_true] at hv2
      exact hv2.1
    obtain ⟨m1, m2, g1, g8, _⟩ := par_facts hpr
    obtain ⟨M, rfl⟩ : ∃ M : Nat, m = M := ⟨m.toNat, by omega⟩
    have hM : M ≤ 16 := by omega
    have e1 : canB (M : Int) xs word = inB word 0 (2 ^ M - 1) := by unfold canB; rw [hv]; rfl
    rw [e1]
    have HV := Lib.hid hv
    clear hv e1 hpr
    go_enter Try.func37, Try.ntmps37
    go_wp2_with fail
    rw [← EW.out]
    refine (impl_ValidParity_c w1 M A n cap xs hl hn ((HX.out.below hB0).more hB0.size)).mono ?_
    rintro e w2 ⟨rfl, hb2⟩
    rw [HV.out]
    have d0 := (hb2.cell (p := ⟨w.heap.size, 0, none⟩) z1).trans c0
    have hB2 : Below w.heap.size w w2 := hB0.trans (hb2.mono hB0.size)
    clear c0 c1 hb2 hB0
    go_wp2_with (go_at_call 36; refine (impl_isWordOf_c _ word M hM).mono ?_; rintro e w' ⟨rfl, rfl⟩)
    go_ret
    exact ⟨rfl, hB2⟩


end Go.Proofs.Ytldnhflgpbcmeaa
