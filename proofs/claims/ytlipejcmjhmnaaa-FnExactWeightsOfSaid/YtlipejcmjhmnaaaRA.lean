/-
  Contract: how many words of a code have each weight, of the reference (the program's lies in QA).
  Conditions: lengths at most 1048576; wtRow's length.
-/
import Derived.Test.YtlipejcmjhmnaaaQB
namespace Go.Proofs.Ytlipejcmjhmnaaa
open Go.RowKit

theorem weightsV_len (m : Int) (xs : List Int) : (weightsV m xs).length ≤ 17 := by
  unfold weightsV
  cases hv : validParB m xs
  · simp
  · have hpr : parRows m xs = true := by
      unfold validParB at hv
      rw [Bool.and_eq_true] at hv
      exact hv.1
    obtain ⟨m1, m2, _⟩ := par_facts hpr
    simp only [if_true, wtRow_len]
    omega


set_option maxRecDepth 100000 in
set_option maxHeartbeats 2000000 in
theorem spec_WeightsOf_c (w : World) (m : Int) (A : Option Addr) (n cap : Nat) (xs : List Int) (hl : xs.length = n) (hn : n ≤ 1048576) (hx : Sl w w.heap.size A (xs.map (Value.int .i64))) :
    Calls Try.prog 7 #[.agg #[.int .i64 m, .slice A n cap]] w fun e w' => ∃ v, e = .returned (.tuple #[v, .bool (validParB m xs)]) ∧ Ow w' w.heap.size 2 v ((weightsV m xs).map (Value.int .i64)) ∧ Below w.heap.size w w' := by
  have hB0 : Below w.heap.size w (w.alloc (.cells #[.int .i64 m, .slice A n cap] 28)) := (Below.refl _ _).alloc (Nat.le_refl _) _
  obtain ⟨w1, ew⟩ : ∃ q : World, q = w.alloc (.cells #[.int .i64 m, .slice A n cap] 28) := ⟨_, rfl⟩
  have c0 : w1.cell? ⟨w.heap.size, 0, none⟩ = some (.int .i64 m) := by rw [ew]; (first | (simp; done) | (simp (disch := (first | (simp; done) | (simp; omega))) [World.cell?_alloc_at]; done) | (simp (disch := (first | (simp; done) | (simp; omega))) [World.cell?_alloc_past]; done) | (simp (disch := (first | (simp; done) | (simp; omega))) [World.cell?_alloc_at, World.cell?_alloc_past]; done) | (simp (disch := (first | (simp; done) | (simp; omega))) [World.frozen?_alloc_at]; done) | (simp (disch := (first | (simp; done) | (simp; omega))) [World.frozen?_alloc_past]; done) | (simp (disch := (first | (simp; done) | (simp; omega))) [World.frozen?_alloc_at, World.frozen?_alloc_past]; done))
  have c1 : w1.cell? ⟨w.heap.size, 1, none⟩ = some (.slice A n cap) := by rw [ew]; (first | (simp; done) | (simp (disch := (first | (simp; done) | (simp; omega))) [World.cell?_alloc_at]; done) | (simp (disch := (first | (simp; done) | (simp; omega))) [World.cell?_alloc_past]; done) | (simp (disch := (first | (simp; done) | (simp; omega))) [World.cell?_alloc_at, World.cell?_alloc_past]; done) | (simp (disch := (first | (simp; done) | (simp; omega))) [World.frozen?_alloc_at]; done) | (simp (disch := (first | (simp; done) | (simp; omega))) [World.frozen?_alloc_past]; done) | (simp (disch := (first | (simp; done) | (simp; omega))) [World.frozen?_alloc_at, World.frozen?_alloc_past]; done))
  have z1 : w.heap.size < w1.heap.size := by rw [ew]; simp
  rw [← ew] at hB0
  have EW := Lib.hid ew
  have C0 := Lib.hid c0
  have C1 := Lib.hid c1
  have HX := Lib.hid hx
  clear ew c0 c1 hx
  cases hv : validParB m xs
  · have e1 : weightsV m xs = [] := by unfold weightsV; rw [hv]; rfl
    rw [e1]
    have HV := Lib.hid hv
    clear hv e1
    go_enter Try.func7, Try.ntmps7
    go_wp2_with fail
    rw [← EW.out]
    refine (spec_l06Is_c w1 w.heap.size w.heap.size m A n cap xs C0.out C1.out z1 hB0.size hl hn (HX.out.below hB0)).mono ?_
    rintro e w2 ⟨rfl, hb2⟩
    rw [HV.out]
    go_wp2
    go_ret2
    exact ⟨_, rfl, World.ownsRow_nil _ _ _ _, hB0.trans (hb2.mono hB0.size)⟩
  · have hpr : parRows m xs = true := by
      have hv2 := hv
      unfold validParB at hv2
      rw [Bool.and_eq_true] at hv2
      exact hv2.1
    obtain ⟨m1, m2, _⟩ := par_facts hpr
    obtain ⟨M, rfl⟩ : ∃ M : Nat, m = M := ⟨m.toNat, by omega⟩
    have e1 : weightsV (M : Int) xs = wtRow M (codeL xs) := by unfold weightsV; rw [hv]; rfl
    rw [e1]
    have HV := Lib.hid hv
    clear hv hpr
    go_enter Try.func7, Try.ntmps7
    go_wp2_with fail
    rw [← EW.out]
    refine (spec_l06Is_c w1 w.heap.size w.heap.size M A n cap xs C0.out C1.out z1 hB0.size hl hn (HX.out.below hB0)).mono ?_
    rintro e w2 ⟨rfl, hb2⟩
    rw [HV.out]
    have hB2 : Below w.heap.size w w2 := hB0.trans (hb2.mono hB0.size)
    have d0 := (hb2.cell (p := ⟨w.heap.size, 0, none⟩) z1).trans C0.out
    have d1 := (hb2.cell (p := ⟨w.heap.size, 1, none⟩) z1).trans C1.out
    have z2 : w.heap.size < w2.heap.size := Nat.lt_of_lt_of_le z1 hb2.size
    have D0 := Lib.hid d0
    have D1 := Lib.hid d1
    have hb2z := hb2.size
    clear d0 d1 hb2
    go_wp2_with fail
    refine (spec_l06Weights_c w2 w.heap.size w.heap.size M A n cap xs HV.out D0.out D1.out z2 (Nat.le_of_lt z2) hl (HX.out.below hB2)).mono ?_
    rintro e w3 ⟨v, rfl, ho, hb3⟩
    go_wp2
    go_ret2
    exact ⟨_, rfl, own_base ho (Nat.le_of_lt (Nat.lt_of_lt_of_le z1 hb2z)), hB2.trans (hb3.mono (Nat.le_of_lt z2))⟩

end Go.Proofs.Ytlipejcmjhmnaaa
