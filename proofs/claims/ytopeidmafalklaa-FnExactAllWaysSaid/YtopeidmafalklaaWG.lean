/-
  Contract: the best way, of the reference.
  Conditions: lengths at most 1048576.
-/
import Derived.Test.YtopeidmafalklaaWF
import Derived.OwnWalk
namespace Go.Proofs.Ytopeidmafalklaa
open Go.RowKit

theorem long_neg {m : Int} {ms : List Int} {xs : List Nat} (h1 : validCoderB m ms = true) (h2 : softB xs = true) : decide (longV m ms.length xs.length < 0) = !sentOk m ms xs := by
  have hp := (vc_facts h1).2.2.1
  unfold longV sentOk sentB sentN
  rw [h1, h2, Bool.true_and, Bool.true_and]
  by_cases h3 : xs.length % ms.length = 0 ∧ 0 ≤ ((xs.length / ms.length : Nat) : Int) - m ∧ ((xs.length / ms.length : Nat) : Int) - m ≤ 40
  · rw [if_pos h3]
    obtain ⟨a, b, c⟩ := h3
    rw [a, decide_eq_true b, decide_eq_true c]
    simp only [beq_self_eq_true, Bool.true_and, Bool.not_true, decide_eq_false_iff_not]
    omega
  · rw [if_neg h3]
    have : (xs.length % ms.length == 0 && decide (0 ≤ ((xs.length / ms.length : Nat) : Int) - m) && decide (((xs.length / ms.length : Nat) : Int) - m ≤ 40)) = false := by
      rw [Bool.eq_false_iff]
      intro h
      simp only [Bool.and_eq_true, beq_iff_eq, decide_eq_true_eq] at h
      exact h3 ⟨h.1.1, h.1.2, h.2⟩
    rw [this]
    rfl
theorem long_yes {m : Int} {ms : List Int} {xs : List Nat} (h : sentOk m ms xs = true) : longV m ms.length xs.length = sentN m ms xs := by
  unfold sentOk sentB at h
  simp only [Bool.and_eq_true, decide_eq_true_eq, beq_iff_eq] at h
  obtain ⟨⟨⟨⟨_, _⟩, h3⟩, h4⟩, h5⟩ := h
  unfold longV
  rw [if_pos ⟨h3, h4, h5⟩]
  rfl

theorem bestL_len (m : Int) (ms : List Int) (xs : List Nat) : (bestL m ms xs).length ≤ 40 := by
  unfold bestL
  split
  · rename_i h
    unfold bestOk at h
    rw [Bool.and_eq_true] at h
    obtain ⟨M, n, -, -, -, -, -, -, hn, hsn, -, -⟩ := sent_facts h.1
    rw [hsn, Int.toNat_natCast]
    unfold wayBits
    simpa using hn
  · simp


set_option maxRecDepth 100000 in
set_option maxHeartbeats 2000000 in
theorem spec_BestWay_c (w : World) (m : Int) (A : Option Addr) (k cap : Nat) (ms : List Int) (hl : ms.length = k) (hk : k ≤ 1048576) (hx : Sl w w.heap.size A (ms.map (Value.int .i64)))
    (A2 : Option Addr) (n2 cap2 : Nat) (xs : List Nat) (hl2 : xs.length = n2) (hn2 : n2 ≤ 1048576) (hy : Sl w w.heap.size A2 (xs.map (Value.float .f32))) (hA : RowA A2 n2 cap2) :
    Calls Try.prog 29 #[.agg #[.int .i64 m, .slice A k cap], .slice A2 n2 cap2] w (BestPost w m ms xs) := by
  obtain ⟨w1, e1⟩ : ∃ q : World, q = w.alloc (.cells #[.int .i64 m, .slice A k cap] 29) := ⟨_, rfl⟩
  have b1 : Below w.heap.size w w1 := by rw [e1]; exact (Below.refl _ _).alloc (Nat.le_refl _) _
  have z1 : w1.heap.size = w.heap.size + 1 := by rw [e1]; simp
  have hO : Obj w1 w.heap.size 29 #[.int .i64 m, .slice A k cap] := by rw [e1]; exact Obj.new _ _ _
  have C0 : w1.cell? ⟨w.heap.size, 0, none⟩ = some (.int .i64 m) := hO.cell 0
  have C1 : w1.cell? ⟨w.heap.size, 1, none⟩ = some (.slice A k cap) := hO.cell 1
  have HC := Lib.hid (spec_l07Coder_c w1 w.heap.size m w.heap.size A k cap ms C0 C1 hl hk (hx.below b1))
  have HS := Lib.hid (fun q : Nat => spec_l07Soft_c (w1.drewN q) w.heap.size A2 n2 cap2 xs hl2 ((hy.below b1).drewN q))
  have hcap : n2 ≤ cap2 := by
    rcases hA with ⟨_, h1, h2⟩ | ⟨_, _, h, _⟩
    · omega
    · exact h
  have HX := Lib.hid (hx.below b1)
  have HY := Lib.hid (hy.below b1)
  have HO := Lib.hid hO
  have HC0 := Lib.hid C0
  have HC1 := Lib.hid C1
  clear hx hy hO C0 C1
  cases hv : validCoderB m ms
  · have hbo : bestOk m ms xs = false := by unfold bestOk sentOk sentB; rw [hv]; rfl
    rw [hv] at HC
    have HBO := Lib.hid hbo
    clear hv hbo
    go_enter Try.func29, Try.ntmps29
    go_wp2_with (rw [← e1]; clear e1)
    refine HC.out.mono ?_
    rintro e w2 ⟨rfl, q, rfl⟩
    go_wp2
    go_ret3
    exact best_fail HBO.out (below_drewN b1 q)
  · rw [hv] at HC
    obtain ⟨hm1, hm4, hk1, hk4, hr⟩ := vc_facts hv
    rw [hl] at hk1 hk4
    have HL := Lib.hid (fun q : Nat => spec_l07Long_c (w1.drewN q) w.heap.size m (by omega) hm4 A k cap hk1 hk4 HC0.out HC1.out A2 n2 cap2 hn2)
    cases hs : softB xs
    · have hbo : bestOk m ms xs = false := by unfold bestOk sentOk sentB; rw [hs, Bool.and_false]; rfl
      rw [hs] at HS
      have HBO := Lib.hid hbo
      clear hv hbo hs
      go_enter Try.func29, Try.ntmps29
      go_wp2_with (rw [← e1]; clear e1)
      refine HC.out.mono ?_
      rintro e w2 ⟨rfl, q, rfl⟩
      go_wp2_with fail
      refine (HS.out q).mono ?_
      rintro e w3 ⟨rfl, q3, rfl⟩
      go_wp2
      go_ret3
      exact best_fail HBO.out (below_drewN b1 _)
    · rw [hs] at HS
      have hneg := long_neg hv hs
      rw [hl, hl2] at hneg
      cases ho : sentOk m ms xs
      · have hbo : bestOk m ms xs = false := by unfold bestOk; rw [ho]; rfl
        rw [ho] at hneg
        have HBO := Lib.hid hbo
        obtain ⟨z, hz⟩ : ∃ z, longV m k n2 = z := ⟨_, rfl⟩
        rw [hz] at HL hneg
        have hneg2 : decide (z < 0) = true := hneg
        clear hv hbo hs ho hneg hz
        go_enter Try.func29, Try.ntmps29
        go_wp2_with (rw [← e1]; clear e1)
        refine HC.out.mono ?_
        rintro e w2 ⟨rfl, q, rfl⟩
        go_wp2_with fail
        refine (HS.out q).mono ?_
        rintro e w3 ⟨rfl, q3, rfl⟩
        rw [World.drewN_drewN]
        go_wp2_with fail
        refine (HL.out _).mono ?_
        rintro e w4 ⟨rfl, q4, rfl⟩
        go_wp2
        go_ret3
        exact best_fail HBO.out (below_drewN b1 _)
      · obtain ⟨M, n, rfl, hM1, hM4, -, -, -, hn, hsn, hnn, hx160⟩ := sent_facts ho
        rw [hl, hl2] at hnn
        have hly := long_yes ho
        rw [hl, hl2, hsn] at hly
        rw [hly] at HL hneg
        have hneg2 : decide ((n : Int) < 0) = false := by rw [hneg, ho]; rfl
        have hbo : bestOk (M : Int) ms xs = finB (wayGain M ms xs n) := by
          unfold bestOk
          rw [ho, hsn, Bool.true_and, Int.toNat_natCast, Int.toNat_natCast]
        have hbl2 : bestOk (M : Int) ms xs = true → bestL (M : Int) ms xs = wayBits M ms xs n ∧ bestG (M : Int) ms xs = wayGain M ms xs n := fun h => by
          unfold bestL bestG
          rw [h, if_pos rfl, if_pos rfl, hsn, Int.toNat_natCast, Int.toNat_natCast]
          exact ⟨rfl, rfl⟩
        have HW := Lib.hid (fun q : Nat => spec_l07Way_c (w1.drewN q) w.heap.size M hM1 hM4 A k cap ms hl hk1 hk4 hr HO.out (HX.out.more b1.size) A2 n2 cap2 xs hl2 (HY.out.more b1.size) n hn hnn hcap)
        have HBO := Lib.hid hbo
        have HBL2 := Lib.hid hbl2
        clear hv hbo hs ho hneg hly hsn hnn hbl2
        go_enter Try.func29, Try.ntmps29
        go_wp2_with (rw [← e1]; clear e1)
        refine HC.out.mono ?_
        rintro e w2 ⟨rfl, q, rfl⟩
        go_wp2_with fail
        refine (HS.out q).mono ?_
        rintro e w3 ⟨rfl, q3, rfl⟩
        rw [World.drewN_drewN]
        go_wp2_with fail
        refine (HL.out _).mono ?_
        rintro e w4 ⟨rfl, q4, rfl⟩
        rw [World.drewN_drewN]
        go_wp2_with fail
        refine (HL.out _).mono ?_
        rintro e w5 ⟨rfl, q5, rfl⟩
        rw [World.drewN_drewN]
        go_wp2_with fail
        refine (HW.out _).mono ?_
        rintro e w6 ⟨v, g, rfl, hg, hov, hb6⟩
        have hfin := spec_l01Finite_c w6 g
        rw [hg] at hfin
        have HG := Lib.hid hg
        have hb7 : Below w.heap.size w w6 := (below_drewN b1 _).trans (hb6.mono b1.size)
        have hov2 : Ow w6 w.heap.size 4 v ((wayBits M ms xs n).map Value.bool) := own_base hov b1.size
        clear hg hov hb6
        cases hfb : finB (wayGain M ms xs n)
        · rw [hfb] at hfin HBO
          have HF := Lib.hid hfin
          clear hfin hfb
          go_wp2_with fail
          refine HF.out.mono ?_
          rintro e w8 ⟨rfl, q8, rfl⟩
          go_wp2
          go_ret3
          exact best_fail HBO.out (below_drewN hb7 _)
        · rw [hfb] at hfin HBO
          have HF := Lib.hid hfin
          clear hfin hfb
          go_wp2_with fail
          refine HF.out.mono ?_
          rintro e w8 ⟨rfl, q8, rfl⟩
          go_wp2
          go_ret3
          obtain ⟨e1, e2⟩ := HBL2.out HBO.out
          refine ⟨v, g, by rw [HBO.out]; rfl, by rw [e2, HG.out], ?_, below_drewN hb7 _⟩
          rw [e1]
          exact hov2

end Go.Proofs.Ytopeidmafalklaa
