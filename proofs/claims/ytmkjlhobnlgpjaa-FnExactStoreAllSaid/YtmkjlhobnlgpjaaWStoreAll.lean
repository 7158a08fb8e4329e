/-
  FnExactStoreAll returns true for every input, and leaves its arguments as they were.
  Conditions: none beyond the given statement's own.
-/
import Derived.Test.YtmkjlhobnlgpjaaSE
namespace Go.Proofs.Ytmkjlhobnlgpjaa
open Go.RowKit

set_option maxRecDepth 100000 in
set_option maxHeartbeats 4000000 in
theorem law_StoreAll (w : World) (A0 : Option Addr) (n0 cap0 : Nat) (x0 : List SavH) (hl0 : x0.length = n0) (hm0 : n0 ≤ maxLen) (hk0 : ∀ r ∈ x0, okSav maxLen r) (hf0 : ∀ r ∈ x0, ∀ x ∈ r.xs, x < 4294967296) (hx0 : SlS w w.heap.size A0 x0) :
    Calls Try.prog 5 #[.slice A0 n0 cap0] w fun e w' => e = .returned (.bool true) ∧ Below w.heap.size w w' := by
  unfold maxLen at hm0 hk0
  have hq : ∀ b : Bool, (b == b) = true := fun b => by simp
  go_enter Try.func5, Try.ntmps5
  go_wp2_with fail
  refine (szSavedS_c w w.heap.size A0 n0 cap0 x0 1048576 (by decide) (by decide) hl0 hm0 hk0 (Nat.le_refl _) hx0).mono ?_
  rintro e w1 ⟨q, rfl, hqq, B1⟩
  rcases hqq with rfl | ⟨q0, q1, hn, hok⟩
  · go_wp2
    go_ret
    exact ⟨rfl, B1⟩
  go_wp2_with fail
  refine (toSavedS_c w1 A0 n0 cap0 x0 hl0 hn hok ((hx0.below B1).more B1.size)).mono ?_
  rintro e w2 ⟨S1, k1, y1, rfl, hd1, hin1, ho1, hb2⟩
  have B2 := B1.trans (hb2.mono B1.size)
  go_wp2_with fail
  refine (spec_StoreAll_c w2 S1 n0 k1 y1 ((sav_len hd1).trans hl0) hn (ok_copy hd1 hok) (wf_copy hd1 hf0) (fun y hy => rowA_of (hin1 y hy).1) (slS_of_own ho1 hin1)).mono ?_
  rintro e w3 ⟨rfl, hb3⟩
  have B3 := B2.trans (hb3.mono B2.size)
  rw [hd1]
  clear hd1 hin1 ho1
  go_wp2_with fail
  refine (toSavedS_c w3 A0 n0 cap0 x0 hl0 hn hok ((hx0.below B3).more B3.size)).mono ?_
  rintro e w4 ⟨S2, k2, y2, rfl, hd2, hin2, ho2, hb4⟩
  have B4 := B3.trans (hb4.mono B3.size)
  have HD2 := Lib.hid hd2
  have HIN2 := Lib.hid hin2
  clear hd2 hin2
  go_wp2_with fail
  refine (impl_StoreAll_c w4 S2 n0 k2 y2 ((sav_len HD2.out).trans hl0) hn (ok_copy HD2.out hok) (wf_copy HD2.out hf0) (fun y hy => rowA_of (HIN2.out y hy).1) (slS_of_own ho2 HIN2.out)).mono ?_
  rintro e w5 ⟨rfl, hb5⟩
  have B5 := B4.trans (hb5.mono B4.size)
  rw [HD2.out]
  go_wp2_with fail
  refine (toSavedS_c w5 A0 n0 cap0 x0 hl0 hn hok ((hx0.below B5).more B5.size)).mono ?_
  rintro e w6 ⟨S3, k3, y3, rfl, hd3, hin3, ho3, hb6⟩
  have B6 := B5.trans (hb6.mono B5.size)
  have HD3 := Lib.hid hd3
  have HIN3 := Lib.hid hin3
  clear hd3 hin3
  have hs2 := ((slS_of_own ho2 HIN2.out).below hb5).more hb5.size
  go_wp2_with fail
  refine (eqSavedS_t w6 S2 S3 n0 k2 k3 y2 y3 (HD2.out.trans HD3.out.symm) ((sav_len HD2.out).trans hl0) hn (ok_copy HD2.out hok) ((hs2.below hb6).more hb6.size) (slS_of_own ho3 HIN3.out)).mono ?_
  rintro e w7 ⟨rfl, hb7⟩
  go_wp2
  go_ret
  exact ⟨rfl, B6.trans (hb7.mono B6.size)⟩

end Go.Proofs.Ytmkjlhobnlgpjaa
