/-
  FnExactSameSaved returns true for every input, and leaves its arguments as they were.
  Conditions: none beyond the given statement's own.
-/
import Derived.Test.YtmkjlhobnlgpjaaSF
namespace Go.Proofs.Ytmkjlhobnlgpjaa
open Go.RowKit

set_option maxRecDepth 100000 in
set_option maxHeartbeats 4000000 in
theorem law_SameSaved (w : World) (A0 : Option Addr) (n0 cap0 : Nat) (x0 : List SavH) (A1 : Option Addr) (n1 cap1 : Nat) (x1 : List SavH) (hl0 : x0.length = n0) (hm0 : n0 ≤ maxLen) (hk0 : ∀ r ∈ x0, okSav maxLen r) (hf0 : ∀ r ∈ x0, ∀ x ∈ r.xs, x < 4294967296) (hx0 : SlS w w.heap.size A0 x0)
    (hl1 : x1.length = n1) (hm1 : n1 ≤ maxLen) (hk1 : ∀ r ∈ x1, okSav maxLen r) (hf1 : ∀ r ∈ x1, ∀ x ∈ r.xs, x < 4294967296) (hx1 : SlS w w.heap.size A1 x1) :
    Calls Try.prog 3 #[.slice A0 n0 cap0, .slice A1 n1 cap1] w fun e w' => e = .returned (.bool true) ∧ Below w.heap.size w w' := by
  unfold maxLen at hm0 hk0 hm1 hk1
  have hq : ∀ b : Bool, (b == b) = true := fun b => by simp
  go_enter Try.func3, Try.ntmps3
  go_wp2_with fail
  refine (szSavedS_c w w.heap.size A0 n0 cap0 x0 1048576 (by decide) (by decide) hl0 hm0 hk0 (Nat.le_refl _) hx0).mono ?_
  rintro e w0 ⟨q, rfl, hqq, B0⟩
  rcases hqq with rfl | ⟨q0, q1, hn0, hok0⟩
  · go_wp2
    go_ret
    exact ⟨rfl, B0⟩
  go_wp2_with fail
  refine (szSavedS_c w0 w.heap.size A1 n1 cap1 x1 q q0 q1 hl1 hm1 hk1 B0.size (hx1.below B0)).mono ?_
  rintro e w1 ⟨q', rfl, hqq, hb1⟩
  have B1 := B0.trans (hb1.mono B0.size)
  rcases hqq with rfl | ⟨q2, q3, hn1, hok1⟩
  · go_wp2
    go_ret
    exact ⟨rfl, B1⟩
  go_wp2_with fail
  refine (toSavedS_c w1 A0 n0 cap0 x0 hl0 hn0 hok0 ((hx0.below B1).more B1.size)).mono ?_
  rintro e w2 ⟨S1, k1, y1, rfl, hd1, hin1, ho1, hb2⟩
  have B2 := B1.trans (hb2.mono B1.size)
  have HD1 := Lib.hid hd1
  have s1 := slS_of_own ho1 hin1
  clear hd1 hin1
  go_wp2_with fail
  refine (toSavedS_c w2 A1 n1 cap1 x1 hl1 hn1 hok1 ((hx1.below B2).more B2.size)).mono ?_
  rintro e w3 ⟨S2, k2, y2, rfl, hd2, hin2, ho2, hb3⟩
  have B3 := B2.trans (hb3.mono B2.size)
  have HD2 := Lib.hid hd2
  have s2 := slS_of_own ho2 hin2
  have s1 := (s1.below hb3).more hb3.size
  clear hd2 hin2
  go_wp2_with fail
  refine (spec_SameSaved_c w3 S1 S2 n0 k1 n1 k2 y1 y2 ((sav_len HD1.out).trans hl0) ((sav_len HD2.out).trans hl1) hn0 hn1 (ok_copy HD1.out hok0) (ok_copy HD2.out hok1) (wf_copy HD1.out hf0) (wf_copy HD2.out hf1) s1 s2).mono ?_
  rintro e w4 ⟨rfl, k4, rfl⟩
  rw [HD1.out, HD2.out]
  have B4 := below_drewN B3 k4
  clear s1 s2 ho1 ho2
  go_wp2_with fail
  refine (toSavedS_c (w3.drewN k4) A0 n0 cap0 x0 hl0 hn0 hok0 ((hx0.below B4).more B4.size)).mono ?_
  rintro e w5 ⟨S3, k3, y3, rfl, hd3, hin3, ho3, hb5⟩
  have B5 := B4.trans (hb5.mono B4.size)
  have HD3 := Lib.hid hd3
  have s3 := slS_of_own ho3 hin3
  clear hd3 hin3 ho3
  go_wp2_with fail
  refine (toSavedS_c w5 A1 n1 cap1 x1 hl1 hn1 hok1 ((hx1.below B5).more B5.size)).mono ?_
  rintro e w6 ⟨S4, k5, y4, rfl, hd4, hin4, ho4, hb6⟩
  have B6 := B5.trans (hb6.mono B5.size)
  have HD4 := Lib.hid hd4
  have s4 := slS_of_own ho4 hin4
  have s3 := (s3.below hb6).more hb6.size
  clear hd4 hin4 ho4
  go_wp2_with fail
  refine (impl_SameSaved_c w6 S3 S4 n0 k3 n1 k5 y3 y4 ((sav_len HD3.out).trans hl0) ((sav_len HD4.out).trans hl1) hn0 hn1 (ok_copy HD3.out hok0) (ok_copy HD4.out hok1) (wf_copy HD3.out hf0) (wf_copy HD4.out hf1) s3 s4).mono ?_
  rintro e w7 ⟨rfl, hb7⟩
  rw [HD3.out, HD4.out]
  have B7 := B6.trans (hb7.mono B6.size)
  have s3 := (s3.below hb7).more hb7.size
  have s4 := (s4.below hb7).more hb7.size
  go_wp2_with fail
  refine (toSavedS_c w7 A0 n0 cap0 x0 hl0 hn0 hok0 ((hx0.below B7).more B7.size)).mono ?_
  rintro e w8 ⟨S5, k6, y5, rfl, hd5, hin5, ho5, hb8⟩
  have B8 := B7.trans (hb8.mono B7.size)
  have HD5 := Lib.hid hd5
  have s5 := slS_of_own ho5 hin5
  have s3 := (s3.below hb8).more hb8.size
  have s4 := (s4.below hb8).more hb8.size
  clear hd5 hin5 ho5
  go_wp2_with fail
  refine (eqSavedS_t w8 S3 S5 n0 k3 k6 y3 y5 (HD3.out.trans HD5.out.symm) ((sav_len HD3.out).trans hl0) hn0 (ok_copy HD3.out hok0) s3 s5).mono ?_
  rintro e w9 ⟨rfl, hb9⟩
  have B9 := B8.trans (hb9.mono B8.size)
  have s4 := (s4.below hb9).more hb9.size
  go_wp2_with fail
  refine (toSavedS_c w9 A1 n1 cap1 x1 hl1 hn1 hok1 ((hx1.below B9).more B9.size)).mono ?_
  rintro e w10 ⟨S6, k7, y6, rfl, hd6, hin6, ho6, hb10⟩
  have B10 := B9.trans (hb10.mono B9.size)
  have HD6 := Lib.hid hd6
  have s6 := slS_of_own ho6 hin6
  have s4 := (s4.below hb10).more hb10.size
  clear hd6 hin6 ho6
  go_wp2_with fail
  refine (eqSavedS_t w10 S4 S6 n1 k5 k7 y4 y6 (HD4.out.trans HD6.out.symm) ((sav_len HD4.out).trans hl1) hn1 (ok_copy HD4.out hok1) s4 s6).mono ?_
  rintro e w11 ⟨rfl, hb11⟩
  go_wp2
  go_ret
  exact ⟨rfl, B10.trans (hb11.mono B10.size)⟩

end Go.Proofs.Ytmkjlhobnlgpjaa
