/-
  FnExactLoadSaved returns true for every input.
  Conditions: none beyond the given statement's own.
-/
import Derived.Test.YtmkjlhobnlgpjaaTW
import Derived.Test.YtmkjlhobnlgpjaaSE
namespace Go.Proofs.Ytmkjlhobnlgpjaa
open Go.RowKit

theorem loadD_len (s : ByteArray) : (loadD s).2.1.length ≤ 255 ∧ (loadD s).2.2.length ≤ 255 := by
  unfold loadD
  split
  · unfold parseD
    constructor
    · have := nB_lt s (a1 s)
      simp only [bitsP_len]
      unfold m2
      omega
    · have := nB_lt s (a3 s)
      simp only [softP_len]
      unfold m3
      omega
  · simp

set_option maxRecDepth 100000 in
set_option maxHeartbeats 4000000 in
theorem law_LoadSaved (w : World) (s : ByteArray) (hs : s.size ≤ maxLen) :
    Calls Try.prog 6 #[.string s] w fun e w' => e = .returned (.bool true) ∧ Below w.heap.size w w' := by
  unfold maxLen at hs
  rcases Nat.lt_or_ge 1048576 s.size with hn | hn
  · go_enter Try.func6, Try.ntmps6
    go_wp2
    go_ret
    exact ⟨rfl, Below.refl _ _⟩
  have hq : ∀ b : Bool, (b == b) = true := fun b => by simp
  have HSPEC := Lib.hid (spec_LoadSaved_c w s hn)
  have HIMPL := Lib.hid (fun W => impl_LoadSaved_c W s hn)
  obtain ⟨hl1, hl2⟩ := loadD_len s
  unfold LdPost at HSPEC HIMPL
  obtain ⟨⟨nm, bs, xs⟩, hd⟩ : ∃ d, loadD s = d := ⟨_, rfl⟩
  obtain ⟨ok, hok⟩ : ∃ b, loadB s = b := ⟨_, rfl⟩
  rw [hd] at HSPEC HIMPL hl1 hl2
  rw [hok] at HSPEC HIMPL
  simp only at HSPEC HIMPL hl1 hl2
  clear hd hok
  obtain ⟨n1, hn1⟩ : ∃ n, bs.length = n := ⟨_, rfl⟩
  obtain ⟨n2, hn2⟩ : ∃ n, xs.length = n := ⟨_, rfl⟩
  rw [hn1] at hl1
  rw [hn2] at hl2
  go_enter Try.func6, Try.ntmps6
  go_wp2_with fail
  refine HSPEC.out.mono ?_
  rintro e w1 ⟨v1, v2, rfl, ho1, ho2, hb1⟩
  obtain ⟨S1, k1, rfl, hp1⟩ := ho1.opn
  obtain ⟨S2, k2, rfl, hp2⟩ := ho2.opn
  rw [hn1] at hp1 ⊢
  rw [hn2] at hp2 ⊢
  clear ho1 ho2 HSPEC
  have z1 := hb1.size
  have HI1 := Lib.hid (own_in hp1)
  have HI2 := Lib.hid (own_in hp2)
  go_wp2_with fail
  obtain ⟨w2, e2⟩ : ∃ q : World, q = w1.alloc (.cells #[.string nm, .slice S1 n1 k1, .slice S2 n2 k2] 35) := ⟨_, rfl⟩
  have O2 : Obj w2 w1.heap.size 35 #[.string nm, .slice S1 n1 k1, .slice S2 n2 k2] := by rw [e2]; exact Obj.new _ _ _
  have b2 : Below w1.heap.size w1 w2 := by rw [e2]; exact (Below.refl _ _).alloc (Nat.le_refl _) _
  have z2 : w2.heap.size = w1.heap.size + 1 := by rw [e2]; simp
  rw [← e2]
  clear e2
  have B2 := hb1.trans (b2.mono z1)
  have hp1 := own_below hp1 b2 (Nat.le_refl _)
  have hp2 := own_below hp2 b2 (Nat.le_refl _)
  have HO2 := Lib.hid O2
  have HP1 := Lib.hid hp1
  have HP2 := Lib.hid hp2
  clear O2 hp1 hp2
  refine (HIMPL.out w2).mono ?_
  rintro e w3 ⟨v3, v4, rfl, ho3, ho4, hb3⟩
  obtain ⟨S3, k3, rfl, hp3⟩ := ho3.opn
  obtain ⟨S4, k4, rfl, hp4⟩ := ho4.opn
  rw [hn1] at hp3 ⊢
  rw [hn2] at hp4 ⊢
  clear ho3 ho4
  have z3 := hb3.size
  have hi3 := own_in hp3
  have hi4 := own_in hp4
  have HI3 := Lib.hid hi3
  have HI4 := Lib.hid hi4
  clear hi3 hi4
  obtain ⟨d0, d1, d2, _⟩ := obj3 (HO2.out.below hb3 (by omega))
  have lt3 : w1.heap.size < w3.heap.size := by omega
  go_wp2_with fail
  obtain ⟨w4, e4⟩ : ∃ q : World, q = w3.alloc (.cells #[.string nm, .slice S3 n1 k3, .slice S4 n2 k4] 35) := ⟨_, rfl⟩
  have O4 : Obj w4 w3.heap.size 35 #[.string nm, .slice S3 n1 k3, .slice S4 n2 k4] := by rw [e4]; exact Obj.new _ _ _
  have b4 : Below w3.heap.size w3 w4 := by rw [e4]; exact (Below.refl _ _).alloc (Nat.le_refl _) _
  have z4 : w4.heap.size = w3.heap.size + 1 := by rw [e4]; simp
  rw [← e4]
  clear e4
  have b34 := hb3.trans (b4.mono z3)
  have B4 := B2.trans (b34.mono (by omega))
  have HO4 := Lib.hid O4
  have HO2 := Lib.hid (HO2.out.below b34 (by omega))
  have HP1 := Lib.hid (own_below HP1.out b34 (Nat.le_refl _))
  have HP2 := Lib.hid (own_below HP2.out b34 (Nat.le_refl _))
  have HP3 := Lib.hid (own_below hp3 b4 (Nat.le_refl _))
  have HP4 := Lib.hid (own_below hp4 b4 (Nat.le_refl _))
  clear O4 hp3 hp4 d0 d1 d2
  refine (eqSaved_t w4 nm S3 S1 n1 k3 k1 bs hn1 (Nat.le_trans hl1 (by decide)) (sl_of_own HP3.out) (sl_of_own HP1.out) S4 S2 n2 k4 k2 xs hn2 (Nat.le_trans hl2 (by decide)) (sl_of_own HP4.out) (sl_of_own HP2.out)).mono ?_
  rintro e w5 ⟨rfl, hb5⟩
  have z5 := hb5.size
  have HO4 := Lib.hid (HO4.out.below hb5 (by omega))
  have HO2 := Lib.hid (HO2.out.below hb5 (by omega))
  have HP1 := Lib.hid (own_below HP1.out hb5 (Nat.le_refl _))
  have HP2 := Lib.hid (own_below HP2.out hb5 (Nat.le_refl _))
  have HP3 := Lib.hid (own_below HP3.out hb5 (Nat.le_refl _))
  have HP4 := Lib.hid (own_below HP4.out hb5 (Nat.le_refl _))
  have B5 := B4.trans (hb5.mono (by omega))
  obtain ⟨c0, c1, c2, _⟩ := obj3 HO4.out
  go_wp2_with fail
  refine (markSaved_c w5 w2.heap.size w2.heap.size w3.heap.size nm S3 n1 k3 _ (Nat.le_trans hl1 (by decide)) S4 n2 k4 _ (Nat.le_trans hl2 (by decide)) 1 (by decide) (by decide) HP3.out HP4.out HI3.out HI4.out).mono ?_
  rintro e w6 ⟨rfl, hm3, hm4, hsp⟩
  have z6 := hsp.size
  have HO4 := Lib.hid (HO4.out.spot hsp (.inr (by omega)))
  have HO2 := Lib.hid (HO2.out.spot hsp (.inl (by omega)))
  have HP1 := Lib.hid (own_spot HP1.out hsp HI1.out (.inl (by omega)))
  have HP2 := Lib.hid (own_spot HP2.out hsp HI2.out (.inl (by omega)))
  have HP3 := Lib.hid hm3
  have HP4 := Lib.hid hm4
  clear c0 c1 c2
  have B6 := below_spot B5 hsp (by omega) (by omega)
  clear hm3 hm4
  obtain ⟨c0, c1, c2, _⟩ := obj3 HO4.out
  go_wp2_with fail
  refine (heldSaved_c w6 w6.heap.size w6.heap.size nm S3 n1 k3 (Nat.le_trans hl1 (by decide)) S4 n2 k4 (Nat.le_trans hl2 (by decide)) 1 (by decide) (by decide) (sl_of_own HP3.out) (sl_of_own HP4.out) (Nat.le_refl _) (Nat.le_refl _)).mono ?_
  rintro e w7 ⟨rfl, hb7⟩
  have z7 := hb7.size
  have HO4 := Lib.hid (HO4.out.below hb7 (by omega))
  have HO2 := Lib.hid (HO2.out.below hb7 (by omega))
  have HP1 := Lib.hid (own_below HP1.out hb7 (Nat.le_refl _))
  have HP2 := Lib.hid (own_below HP2.out hb7 (Nat.le_refl _))
  have HP3 := Lib.hid (own_below HP3.out hb7 (Nat.le_refl _))
  have HP4 := Lib.hid (own_below HP4.out hb7 (Nat.le_refl _))
  have B7 := B6.trans (hb7.mono (by omega))
  clear c0 c1 c2
  have hk1 : (0 : Int) ≤ 1 + (n1 : Nat) + (n2 : Nat) := by omega
  go_wp2_with fail
  refine (HIMPL.out w7).mono ?_
  rintro e w8 ⟨v5, v6, rfl, ho5, ho6, hb8⟩
  obtain ⟨S5, k5, rfl, hp5⟩ := ho5.opn
  obtain ⟨S6, k6, rfl, hp6⟩ := ho6.opn
  rw [hn1] at hp5 ⊢
  rw [hn2] at hp6 ⊢
  clear ho5 ho6
  have z8 := hb8.size
  obtain ⟨d0, d1, d2, _⟩ := obj3 (HO2.out.below hb8 (by omega))
  have lt8 : w1.heap.size < w8.heap.size := by omega
  go_wp2_with fail
  obtain ⟨w9, e9⟩ : ∃ q : World, q = w8.alloc (.cells #[.string nm, .slice S5 n1 k5, .slice S6 n2 k6] 35) := ⟨_, rfl⟩
  have O9 : Obj w9 w8.heap.size 35 #[.string nm, .slice S5 n1 k5, .slice S6 n2 k6] := by rw [e9]; exact Obj.new _ _ _
  have b9 : Below w8.heap.size w8 w9 := by rw [e9]; exact (Below.refl _ _).alloc (Nat.le_refl _) _
  have z9 : w9.heap.size = w8.heap.size + 1 := by rw [e9]; simp
  rw [← e9]
  clear e9
  have b89 := hb8.trans (b9.mono z8)
  have B9 := B7.trans (b89.mono (by omega))
  have HO9 := Lib.hid O9
  have HO4 := Lib.hid (HO4.out.below b89 (by omega))
  have HO2 := Lib.hid (HO2.out.below b89 (by omega))
  have HP1 := Lib.hid (own_below HP1.out b89 (Nat.le_refl _))
  have HP2 := Lib.hid (own_below HP2.out b89 (Nat.le_refl _))
  have HP3 := Lib.hid (own_below HP3.out b89 (Nat.le_refl _))
  have HP4 := Lib.hid (own_below HP4.out b89 (Nat.le_refl _))
  have HP5 := Lib.hid (own_below hp5 b9 (Nat.le_refl _))
  have HP6 := Lib.hid (own_below hp6 b9 (Nat.le_refl _))
  clear O9 hp5 hp6 d0 d1 d2
  refine (eqSaved_t w9 nm S5 S1 n1 k5 k1 bs hn1 (Nat.le_trans hl1 (by decide)) (sl_of_own HP5.out) (sl_of_own HP1.out) S6 S2 n2 k6 k2 xs hn2 (Nat.le_trans hl2 (by decide)) (sl_of_own HP6.out) (sl_of_own HP2.out)).mono ?_
  rintro e w10 ⟨rfl, hb10⟩
  have z10 := hb10.size
  have HO4 := Lib.hid (HO4.out.below hb10 (by omega))
  have HP3 := Lib.hid (own_below HP3.out hb10 (Nat.le_refl _))
  have HP4 := Lib.hid (own_below HP4.out hb10 (Nat.le_refl _))
  have B10 := B9.trans (hb10.mono (by omega))
  obtain ⟨c0, c1, c2, _⟩ := obj3 HO4.out
  go_wp2_with fail
  refine (heldSaved_c w10 w10.heap.size w10.heap.size nm S3 n1 k3 (Nat.le_trans hl1 (by decide)) S4 n2 k4 (Nat.le_trans hl2 (by decide)) 1 (by decide) (by decide) (sl_of_own HP3.out) (sl_of_own HP4.out) (Nat.le_refl _) (Nat.le_refl _)).mono ?_
  rintro e w11 ⟨rfl, hb11⟩
  have B11 := B10.trans (hb11.mono (by omega))
  go_wp2
  go_ret
  exact ⟨rfl, B11⟩

end Go.Proofs.Ytmkjlhobnlgpjaa
