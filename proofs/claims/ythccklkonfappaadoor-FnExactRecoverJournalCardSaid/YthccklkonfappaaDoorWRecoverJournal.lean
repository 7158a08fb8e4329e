/-
  FnExactRecoverJournal: the law's walk.
  Conditions: the table of the powers of ten lies there; internal/bytealg.MaxLen's cell holds a number.
-/
import Derived.Test.YthccklkonfappaaDoorJK
namespace Go.Proofs.YthccklkonfappaaDoor
open Go.RowKit

set_option maxRecDepth 100000 in
set_option maxHeartbeats 4000000 in
theorem law_RecoverJournal (w : World) (s : ByteArray) (hs : s.size ≤ maxLen) (ht : Tab w) (hm : maxLenOk w) :
    Calls Tryd.prog 6 #[.string s] w fun e w' => e = .returned (.bool true) ∧ Below w.heap.size w w' := by
  unfold maxLen at hs
  by_cases h1 : s.size ≤ 1048576
  · have hml := hm.lt
    have HIM := Lib.hid (fun W (hW : Below w.heap.size w W) => impl_RecoverJournal_c W s h1 (ht.below hW (Nat.le_refl _)) (hm.below hW hml))
    have HSP := Lib.hid (spec_RecoverJournal_c w s h1)
    clear ht hm
    have hln := recJ_len s
    go_enter Tryd.func6, Tryd.ntmps6
    go_wp2_with fail
    refine HSP.out.mono ?_
    rintro e w1 ⟨v1, rfl, ho1, Bw1⟩
    have zw1 := Bw1.size
    obtain ⟨S1, k1, rfl, hp1⟩ := ho1.opn
    clear ho1
    have hi1 := Lib.hid (own_in hp1)
    go_wp2_with fail
    refine (HIM.out w1 Bw1).mono ?_
    rintro e w2 ⟨v2, rfl, ho2, hb2⟩
    have hp1 := own_below hp1 hb2 (Nat.le_refl _)
    have Bw2 : Below w.heap.size w w2 := Bw1.trans (hb2.mono Bw1.size)
    have zw2 := hb2.size
    obtain ⟨S2, k2, rfl, hp2⟩ := ho2.opn
    clear ho2
    have hi2 := Lib.hid (own_in hp2)
    obtain ⟨xs, hxs⟩ : ∃ xs, (recJ s).1 = xs := ⟨_, rfl⟩
    obtain ⟨n, hn⟩ : ∃ n, xs.length = n := ⟨_, rfl⟩
    obtain ⟨p, hp⟩ : ∃ p, (recJ s).2.1 = p := ⟨_, rfl⟩
    obtain ⟨b, hb⟩ : ∃ b, (recJ s).2.2 = b := ⟨_, rfl⟩
    rw [hxs, hn] at hp1 hp2 hi1 hi2 hln
    rw [hxs, hn, hp, hb]
    have HX := Lib.hid hxs
    have HNN := Lib.hid hn
    have HPP := Lib.hid hp
    have HBB := Lib.hid hb
    clear hxs hp hb
    go_wp2_with fail
    refine (calls_grow (eqStringS_t _ S2 S1 n k2 k1 _ _ xs hn (by omega) (sl_of_own hp2) (sl_of_own hp1))).mono ?_
    rintro e w3 ⟨rfl, hb3⟩
    have hp1 := own_below hp1 hb3 (Nat.le_refl _)
    have hp2 := own_below hp2 hb3 (Nat.le_refl _)
    have Bw3 : Below w.heap.size w w3 := Bw2.trans (hb3.mono Bw2.size)
    have zw3 := hb3.size
    go_wp2_with fail
    refine (markStringS_c _ _ S2 n k2 _ (by omega) (1) (by decide) (by decide) hp2).mono ?_
    rintro e w4 ⟨rfl, ho, hg4⟩
    have hp1 := own_apart hp1 hg4 hi1.out hi2.out (by omega)
    have hp2 := ho
    clear ho
    have Bw4 : Below w.heap.size w w4 := below_marked Bw3 hg4 hi2.out (by omega) (by omega)
    have zw4 := hg4.size
    have hk4 : (0 : Int) ≤ 1 + (n : Nat) := by omega
    go_wp2_with fail
    refine (heldStringS_c _ S2 n k2 (by omega) (1) (by decide) (by decide) (sl_of_own hp2)).mono ?_
    rintro e w5 ⟨rfl, hb5⟩
    have hp1 := own_below hp1 hb5 (Nat.le_refl _)
    have hp2 := own_below hp2 hb5 (Nat.le_refl _)
    have Bw5 : Below w.heap.size w w5 := Bw4.trans (hb5.mono Bw4.size)
    have zw5 := hb5.size
    have hk5 : (0 : Int) ≤ 1 + (n : Nat) := by omega
    go_wp2_with fail
    refine (HIM.out w5 Bw5).mono ?_
    rintro e w6 ⟨v3, rfl, ho3, hb6⟩
    have hp1 := own_below hp1 hb6 (Nat.le_refl _)
    have hp2 := own_below hp2 hb6 (Nat.le_refl _)
    have Bw6 : Below w.heap.size w w6 := Bw5.trans (hb6.mono Bw5.size)
    have zw6 := hb6.size
    rw [HX.out] at ho3
    rw [HPP.out, HBB.out]
    obtain ⟨S3, k3, rfl, hp3⟩ := ho3.opn
    rw [hn] at hp3 ⊢
    clear ho3
    have hi3 := Lib.hid (own_in hp3)
    go_wp2_with fail
    refine (calls_grow (eqStringS_t _ S3 S1 n k3 k1 _ _ xs hn (by omega) (sl_of_own hp3) (sl_of_own hp1))).mono ?_
    rintro e w7 ⟨rfl, hb7⟩
    have hp2 := own_below hp2 hb7 (Nat.le_refl _)
    have Bw7 : Below w.heap.size w w7 := Bw6.trans (hb7.mono Bw6.size)
    have zw7 := hb7.size
    go_wp2_with fail
    refine (heldStringS_c _ S2 n k2 (by omega) (1) (by decide) (by decide) (sl_of_own hp2)).mono ?_
    rintro e w8 ⟨rfl, hb8⟩
    have Bw8 : Below w.heap.size w w8 := Bw7.trans (hb8.mono Bw7.size)
    have hk8 : (0 : Int) ≤ 1 + (n : Nat) := by omega
    go_wp2
    go_ret
    exact ⟨rfl, Bw8⟩
  · go_enter Tryd.func6, Tryd.ntmps6
    go_wp2
    go_ret
    exact ⟨rfl, Below.refl _ _⟩

end Go.Proofs.YthccklkonfappaaDoor
