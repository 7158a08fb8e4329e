/-
  FnExactRecoverAll returns true for every input.
  Conditions: none beyond the given statement's own.
-/
import Derived.Test.YtmkjlhobnlgpjaaTY
import Derived.Test.YtmkjlhobnlgpjaaSE
namespace Go.Proofs.Ytmkjlhobnlgpjaa
open Go.RowKit

theorem recF_len : ∀ (f : Nat) (s : ByteArray), (recF f s).1.length ≤ f
  | 0, _ => Nat.le_refl _
  | f + 1, s => by
    unfold recF
    split
    · simpa using recF_len f _
    · simp
theorem recF_vld : ∀ (f : Nat) (s : ByteArray), ∀ d ∈ (recF f s).1, vld d = true
  | 0, _, d, h => by cases h
  | f + 1, s, d, h => by
    unfold recF at h
    split at h
    · rename_i hb
      rcases List.mem_cons.1 h with rfl | h
      · unfold beginB at hb
        rw [Bool.and_eq_true, Bool.and_eq_true] at hb
        exact hb.2.1
      · exact recF_vld f _ d h
    · cases h
theorem own3_opn {w : World} {base n : Nat} {e : TypeId} {v : Value} {xs : List Value} (h : w.ownsRow base e 3 v n xs) : ∃ A cap, v = .slice A n cap := by
  rcases h.2 with ⟨rfl, rfl⟩ | ⟨g, cap, cur, rfl, _⟩
  · exact ⟨_, _, rfl⟩
  · exact ⟨_, _, rfl⟩
theorem sl_of_own3 {w : World} {base : Nat} {e : TypeId} {A : Option Addr} {n cap : Nat} {xs : List Value} (ho : w.ownsRow base e 3 (.slice A n cap) n xs) : Sl w w.heap.size A xs := by
  rcases ho.2 with ⟨h1, h2⟩ | ⟨g, cap', cur, h1, _, hg, _⟩
  · left
    have := ho.1
    exact List.eq_nil_of_length_eq_zero (by rw [this, h2, Nat.zero_mul])
  · injection h1 with e1 e2 e3
    subst e1 e3
    refine .inr ⟨g, 0, rfl, (Array.getElem?_eq_some_iff.1 hg).1, fun j u hu => ?_⟩
    rw [Nat.zero_add, World.ownsRow.cellAt ho j (by rw [← ho.1]; exact (List.getElem?_eq_some_iff.1 hu).1), hu]
theorem vld_few {ys : List SavH} {L : List SavD} (hd : sdat ys = L) (hv : ∀ d ∈ L, vld d = true) : (∀ y ∈ ys, few y) ∧ ∀ y ∈ ys, okSav 1048576 y := by
  have h : ∀ y ∈ ys, y.s.size ≤ 8 ∧ y.bs.length ≤ 160 ∧ y.xs.length ≤ 160 := fun y hy => valid_facts (hv (sd1 y) (by rw [← hd]; exact List.mem_map_of_mem hy))
  refine ⟨fun y hy => ?_, fun y hy => ?_⟩
  · have := h y hy
    unfold few
    omega
  · have := h y hy
    unfold okSav
    omega
theorem OwnS.spot {w w' : World} {B a b c d : Nat} {r : SavH} (h : OwnS w B r) (hs : Spot c d w w') (hv : ∀ g, blkS r g → a ≤ g ∧ g < b) (ho : b ≤ c ∨ d ≤ a) : OwnS w' B r :=
  ⟨own_spot h.1 hs (fun g hg => hv g (.inl hg)) ho, own_spot h.2 hs (fun g hg => hv g (.inr hg)) ho⟩

set_option maxRecDepth 100000 in
set_option maxHeartbeats 4000000 in
theorem law_RecoverAll (w : World) (s : ByteArray) (hs : s.size ≤ maxLen) :
    Calls Try.prog 7 #[.string s] w fun e w' => e = .returned (.bool true) ∧ Below w.heap.size w w' := by
  unfold maxLen at hs
  rcases Nat.lt_or_ge 1048576 s.size with hn | hn
  · go_enter Try.func7, Try.ntmps7
    go_wp2
    go_ret
    exact ⟨rfl, Below.refl _ _⟩
  have hq : ∀ b : Bool, (b == b) = true := fun b => by simp
  have HSPEC := Lib.hid (spec_RecoverAll_c w s hn)
  have HIMPL := Lib.hid (fun W => impl_RecoverAll_c W s hn)
  have hlen := recF_len 8 s
  have hvd := recF_vld 8 s
  unfold RecPost at HSPEC HIMPL
  obtain ⟨⟨L, p⟩, hd⟩ : ∃ d, recF 8 s = d := ⟨_, rfl⟩
  rw [hd] at HSPEC HIMPL hlen hvd
  simp only at HSPEC HIMPL hlen hvd
  clear hd
  obtain ⟨n, hn1⟩ : ∃ n, L.length = n := ⟨_, rfl⟩
  rw [hn1] at hlen
  have HV := Lib.hid hvd
  clear hvd
  go_enter Try.func7, Try.ntmps7
  go_wp2_with fail
  refine HSPEC.out.mono ?_
  rintro e w1 ⟨v1, y1, rfl, hd1, hi1, _, ho1, hb1⟩
  have hl1 : y1.length = n := by rw [← hn1, ← hd1]; simp [sdat]
  rw [hl1] at ho1
  obtain ⟨A1, k1, rfl⟩ := own3_opn ho1
  have z1 := hb1.size
  have IN1 := Lib.hid (own_in ho1)
  have BK1 := Lib.hid (fun y hy g (hg : blkS y g) => (hi1 y hy).blk hg)
  have D1 := Lib.hid hd1
  have I1 := Lib.hid hi1
  have O1 := Lib.hid ho1
  have L1 := Lib.hid hl1
  clear hd1 hi1 ho1 hl1 HSPEC
  go_wp2_with fail
  refine (HIMPL.out w1).mono ?_
  rintro e w2 ⟨v2, y2, rfl, hd2, hi2, hs2, ho2, hb2⟩
  have hl2 : y2.length = n := by rw [← hn1, ← hd2]; simp [sdat]
  rw [hl2] at ho2
  obtain ⟨A2, k2, rfl⟩ := own3_opn ho2
  have z2 := hb2.size
  have IN2 := Lib.hid (own_in ho2)
  have BK2 := Lib.hid (fun y hy g (hg : blkS y g) => (hi2 y hy).blk hg)
  have FW := Lib.hid (vld_few hd2 HV.out)
  have D2 := Lib.hid hd2
  have I2 := Lib.hid hi2
  have O2 := Lib.hid ho2
  have L2 := Lib.hid hl2
  have S2 := Lib.hid hs2
  have O1 := Lib.hid (own_below O1.out hb2 (Nat.le_refl _))
  have I1 := Lib.hid (fun y hy => (I1.out y hy).below hb2 (Nat.le_refl _))
  have B2 := hb1.trans (hb2.mono z1)
  clear hd2 hi2 ho2 hl2 hs2
  go_wp2_with fail
  refine (eqSavedS_t w2 A2 A1 n k2 k1 y2 y1 (D2.out.trans D1.out.symm) L2.out (Nat.le_trans hlen (by decide)) FW.out.2 (slS_of_own O2.out I2.out) (slS_of_own O1.out I1.out)).mono ?_
  rintro e w3 ⟨rfl, hb3⟩
  have z3 := hb3.size
  have O1 := Lib.hid (own_below O1.out hb3 (Nat.le_refl _))
  have I1 := Lib.hid (fun y hy => (I1.out y hy).below hb3 (Nat.le_refl _))
  have O2 := Lib.hid (own_below O2.out hb3 (Nat.le_refl _))
  have I2 := Lib.hid (fun y hy => (I2.out y hy).below hb3 (Nat.le_refl _))
  have B3 := B2.trans (hb3.mono (by omega))
  go_wp2_with fail
  refine (markSavedS_c w3 w1.heap.size (w1.heap.size + 1) w1.heap.size w2.heap.size A2 n k2 y2 L2.out hlen FW.out.1 1 (by decide) (by decide) O2.out I2.out S2.out IN2.out (fun y hy g hg => ⟨Nat.le_of_succ_le (BK2.out y hy g hg).1, (BK2.out y hy g hg).2⟩)).mono ?_
  rintro e w4 ⟨rfl, ho4, hm4, hsp⟩
  have hkb := kAll_bd y2 1 FW.out.1
  rw [L2.out] at hkb
  obtain ⟨K, hK⟩ : ∃ K, kAll 1 y2 = K := ⟨_, rfl⟩
  rw [hK] at hkb ⊢
  have HK := Lib.hid hK
  have z4 := hsp.size
  have O1 := Lib.hid (own_spot O1.out hsp IN1.out (.inl (Nat.le_refl _)))
  have I1 := Lib.hid (fun y hy => (I1.out y hy).spot hsp (BK1.out y hy) (.inl (Nat.le_refl _)))
  have O2 := Lib.hid ho4
  have M2 := Lib.hid hm4
  have B4 := below_spot B3 hsp z1 (by omega)
  have hK0 : 0 ≤ K := by omega
  clear ho4 hm4 I2 hK hkb
  go_wp2_with fail
  refine (heldSavedS_c w4 (w1.heap.size + 1) A2 n k2 y2 L2.out hlen FW.out.1 1 (by decide) (by decide) (sl_of_own3 O2.out) M2.out).mono ?_
  rintro e w5 ⟨rfl, hb5⟩
  rw [HK.out]
  have z5 := hb5.size
  have O1 := Lib.hid (own_below O1.out hb5 (Nat.le_refl _))
  have I1 := Lib.hid (fun y hy => (I1.out y hy).below hb5 (Nat.le_refl _))
  have O2 := Lib.hid (own_below O2.out hb5 (Nat.le_refl _))
  have M2 := Lib.hid (M2.out.map fun y _ k h => h.below hb5 (Nat.le_refl _))
  have B5 := B4.trans (hb5.mono (by omega))
  go_wp2_with fail
  refine (HIMPL.out w5).mono ?_
  rintro e w6 ⟨v3, y3, rfl, hd3, hi3, _, ho3, hb6⟩
  have hl3 : y3.length = n := by rw [← hn1, ← hd3]; simp [sdat]
  rw [hl3] at ho3
  obtain ⟨A3, k3, rfl⟩ := own3_opn ho3
  have z6 := hb6.size
  have D3 := Lib.hid hd3
  have FW3 := Lib.hid (vld_few hd3 HV.out)
  have I3 := Lib.hid hi3
  have O3 := Lib.hid ho3
  have L3 := Lib.hid hl3
  have O1 := Lib.hid (own_below O1.out hb6 (Nat.le_refl _))
  have I1 := Lib.hid (fun y hy => (I1.out y hy).below hb6 (Nat.le_refl _))
  have O2 := Lib.hid (own_below O2.out hb6 (Nat.le_refl _))
  have M2 := Lib.hid (M2.out.map fun y _ k h => h.below hb6 (Nat.le_refl _))
  have B6 := B5.trans (hb6.mono (by omega))
  clear hd3 hi3 ho3 hl3
  go_wp2_with fail
  refine (eqSavedS_t w6 A3 A1 n k3 k1 y3 y1 (D3.out.trans D1.out.symm) L3.out (Nat.le_trans hlen (by decide)) FW3.out.2 (slS_of_own O3.out I3.out) (slS_of_own O1.out I1.out)).mono ?_
  rintro e w7 ⟨rfl, hb7⟩
  have z7 := hb7.size
  have O2 := Lib.hid (own_below O2.out hb7 (Nat.le_refl _))
  have M2 := Lib.hid (M2.out.map fun y _ k h => h.below hb7 (Nat.le_refl _))
  have B7 := B6.trans (hb7.mono (by omega))
  go_wp2_with fail
  refine (heldSavedS_c w7 (w1.heap.size + 1) A2 n k2 y2 L2.out hlen FW.out.1 1 (by decide) (by decide) (sl_of_own3 O2.out) M2.out).mono ?_
  rintro e w8 ⟨rfl, hb8⟩
  rw [HK.out]
  go_wp2
  go_ret
  exact ⟨rfl, B7.trans (hb8.mono (by omega))⟩

end Go.Proofs.Ytmkjlhobnlgpjaa
