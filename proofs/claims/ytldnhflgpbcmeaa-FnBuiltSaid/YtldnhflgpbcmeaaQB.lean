/-
  Contracts: the distance of a code, of the program and of the reference; all words and weights of the reference.
  Conditions: lengths at most 1048576.
-/
import Derived.Test.YtldnhflgpbcmeaaQA
namespace Go.Proofs.Ytldnhflgpbcmeaa
open Go.RowKit

theorem dist_val {M : Nat} {xs : List Int} {d : Nat} (h : validParB (M : Int) xs = true) (hd : distK (wtRow M (codeL xs)) M = some d) : distV M xs = (d : Int) := by
  have e : (M : Int).toNat = M := rfl
  unfold distV
  rw [h, e, hd]
  rfl
theorem sl_cell {w : World} {B : Nat} {A : Option Addr} {l : List Int} (h : Sl w B A (l.map (Value.int .i64))) {k : Nat} (hk : k < l.length) : ∃ b off, A = some ⟨b, off, none⟩ ∧ b < B ∧ w.cell? ⟨b, off + k, none⟩ = some (.int .i64 (l.getD k 0)) := by
  obtain ⟨b, off, e, hb, hc⟩ := h.get k hk
  exact ⟨b, off, e, hb, by rw [hc]; simp [List.getD, hk]⟩


set_option maxRecDepth 100000 in
set_option maxHeartbeats 2000000 in
theorem impl_DistanceOf_c (w : World) (m : Int) (A : Option Addr) (n cap : Nat) (xs : List Int) (hl : xs.length = n) (hn : n ≤ 1048576) (hx : Sl w w.heap.size A (xs.map (Value.int .i64))) :
    Calls Try.prog 9 #[.agg #[.int .i64 m, .slice A n cap]] w fun e w' => e = .returned (.tuple #[.int .i64 (distV m xs), .bool (validParB m xs)]) ∧ Below w.heap.size w w' := by
  have hB0 : Below w.heap.size w (w.alloc (.cells #[.int .i64 m, .slice A n cap] 27)) := (Below.refl _ _).alloc (Nat.le_refl _) _
  cases hv : validParB m xs
  · have e1 : distV m xs = 0 := by unfold distV; rw [hv]; rfl
    rw [e1]
    have HV := Lib.hid hv
    clear hv e1
    go_enter Try.func9, Try.ntmps9
    go_wp2_with fail
    refine (impl_WeightsOf_c _ m A n cap xs hl hn ((hx.below hB0).more hB0.size)).mono ?_
    rintro e w2 ⟨v, rfl, _, hb2⟩
    rw [HV.out]
    go_wp2
    go_ret2
    exact ⟨rfl, hB0.trans (hb2.mono hB0.size)⟩
  · have hpr : parRows m xs = true := by
      unfold validParB at hv
      rw [Bool.and_eq_true] at hv
      exact hv.1
    obtain ⟨m1, m2, g1, g8, hxs⟩ := par_facts hpr
    obtain ⟨M, rfl⟩ : ∃ M : Nat, m = M := ⟨m.toNat, by omega⟩
    have hM : M ≤ 16 := by omega
    obtain ⟨d, hd⟩ := dist_some hv
    have hdv := dist_val hv hd
    obtain ⟨hd1, hd2, hd3, hd4⟩ := distK_mem hd
    have e1 : weightsV (M : Int) xs = wtRow M (codeL xs) := by unfold weightsV; rw [hv]; rfl
    rw [hdv]
    obtain ⟨R, hR⟩ : ∃ R, wtRow M (codeL xs) = R := ⟨_, rfl⟩
    have hRl : R.length = M + 1 := by rw [← hR, wtRow_len]
    rw [hR] at e1 hd3 hd4
    have HE := Lib.hid e1
    have HV := Lib.hid hv
    have HD4 := Lib.hid hd4
    have HX := Lib.hid hx
    have HRL := Lib.hid hRl
    clear hv e1 hpr hxs hx hd hdv hR hd4 hRl
    go_enter Try.func9, Try.ntmps9
    go_wp2_with fail
    obtain ⟨w1, ew⟩ : ∃ q : World, q = w.alloc (.cells #[.int .i64 (M : Int), .slice A n cap] 27) := ⟨_, rfl⟩
    rw [← ew] at hB0
    have c0 : w1.cell? ⟨w.heap.size, 0, none⟩ = some (.int .i64 (M : Int)) := by rw [ew]; (first | (simp; done) | (simp (disch := (first | (simp; done) | (simp; omega))) [World.cell?_alloc_at]; done) | (simp (disch := (first | (simp; done) | (simp; omega))) [World.cell?_alloc_past]; done) | (simp (disch := (first | (simp; done) | (simp; omega))) [World.cell?_alloc_at, World.cell?_alloc_past]; done) | (simp (disch := (first | (simp; done) | (simp; omega))) [World.frozen?_alloc_at]; done) | (simp (disch := (first | (simp; done) | (simp; omega))) [World.frozen?_alloc_past]; done) | (simp (disch := (first | (simp; done) | (simp; omega))) [World.frozen?_alloc_at, World.frozen?_alloc_past]; done))
    have z1 : w.heap.size < w1.heap.size := by rw [ew]; simp
    rw [← ew]
    clear ew
    refine (impl_WeightsOf_c w1 M A n cap xs hl hn ((HX.out.below hB0).more hB0.size)).mono ?_
    rintro e w2 ⟨v, rfl, ho2, hb2⟩
    rw [HV.out]
    rw [HE.out] at ho2
    have d0 := (hb2.cell (p := ⟨w.heap.size, 0, none⟩) z1).trans c0
    have hB2 : Below w.heap.size w w2 := hB0.trans (hb2.mono hB0.size)
    obtain ⟨S, k2, rfl, hp2⟩ := ho2.opn
    clear c0 hb2 hB0 ho2
    go_wp2
    go_loop [6] (fun i => ∃ k : Nat, 1 ≤ k ∧ k ≤ d ∧ i = .int .i64 (k : Int)) (fun i => d - (intOf i).toNat)
    case atStart => exact ⟨1, Nat.le_refl _, hd1, rfl⟩
    case round =>
      obtain ⟨k, hk1, hk, rfl⟩ := hrel
      obtain ⟨b, off, rfl, hbb, hc1⟩ := sl_cell (sl_of_own hp2) (k := k) (by have := HRL.out; omega)
      have hkM : k ≤ M := by omega
      have hkr : k < R.length := by have := HRL.out; omega
      by_cases hlt : k < d
      · have h4 := HD4.out k hk1 hlt
        obtain ⟨y, hy⟩ : ∃ y, R.getD k 0 = y := ⟨_, rfl⟩
        rw [hy] at h4 hc1
        clear hd3 hy
        go_wp2
        go_round
        case rel => exact ⟨k + 1, by omega, by omega, by go_num⟩
        case measure => simp [intOf]; omega
      · have : k = d := by omega
        subst this
        obtain ⟨y, hy⟩ : ∃ y, R.getD k 0 = y := ⟨_, rfl⟩
        rw [hy] at hd3 hc1
        clear hy
        go_wp2
        go_ret2
        exact ⟨rfl, hB2⟩





end Go.Proofs.Ytldnhflgpbcmeaa
