/-
  FnExactJournalOf: the law's walk.
  Conditions: the table of the powers of ten lies there.
-/
import Derived.Test.YthccklkonfappaaDoorJD
import Derived.Test.YthccklkonfappaaDoorJE
namespace Go.Proofs.YthccklkonfappaaDoor
open Go.RowKit

set_option maxRecDepth 100000 in
set_option maxHeartbeats 4000000 in
theorem law_JournalOf (w : World) (A : Option Addr) (n cap : Nat) (xs : List ByteArray) (hl : xs.length = n) (hm : n ≤ maxLen) (hr : ∀ x ∈ xs, x.size ≤ maxLen) (hx : Sl w w.heap.size A (xs.map Value.string)) (ht : Tab w) :
    Calls Tryd.prog 5 #[.slice A n cap] w fun e w' => e = .returned (.bool true) ∧ Below w.heap.size w w' := by
  unfold maxLen at hm hr
  have HSZ := Lib.hid (szStringS_c w w.heap.size A n cap xs 1048576 (by omega) (by omega) hl (by omega) (fun x hx => Nat.le_trans (hr x hx) (by decide)) hx)
  clear hr
  go_enter Tryd.func5, Tryd.ntmps5
  go_wp2_with fail
  refine HSZ.out.mono ?_
  rintro e w0 ⟨q, rfl, hq, rfl⟩
  rcases hq with rfl | ⟨hq0, hq1⟩
  · go_wp2
    go_ret
    exact ⟨rfl, Below.refl _ _⟩
  have hn : totS xs + n ≤ 1048576 := by omega
  clear HSZ
  go_wp2_with fail
  refine (toStringS_c w A n cap xs hl (by omega) hx).mono ?_
  rintro e w1 ⟨v1, rfl, ho1, hb1⟩
  obtain ⟨S1, k1, rfl, hp1⟩ := ho1.opn
  rw [hl] at hp1 ⊢
  clear ho1
  go_wp2_with fail
  refine (spec_JournalOf_c w1 S1 n k1 xs hl hn (sl_of_own hp1)).mono ?_
  rintro e w2 ⟨rfl, hb2⟩
  have hB2 : Below w.heap.size w w2 := hb1.trans (hb2.mono hb1.size)
  go_wp2_with fail
  refine (toStringS_c w2 A n cap xs hl (by omega) ((hx.below hB2).more hB2.size)).mono ?_
  rintro e w3 ⟨v2, rfl, ho3, hb3⟩
  have hB3 : Below w.heap.size w w3 := hB2.trans (hb3.mono hB2.size)
  obtain ⟨S2, k2, rfl, hp2⟩ := ho3.opn
  rw [hl] at hp2 ⊢
  clear ho3
  have HIM := Lib.hid (impl_JournalOf_c w3 S2 n k2 xs hl hn (sl_of_own hp2) (ht.below hB3 (Nat.le_refl _)))
  go_wp2_with fail
  refine HIM.out.mono ?_
  rintro e w4 ⟨rfl, hb4⟩
  have hB4 : Below w.heap.size w w4 := hB3.trans (hb4.mono hB3.size)
  have hp2 := own_below hp2 hb4 (Nat.le_refl _)
  have HTO := Lib.hid (toStringS_c w4 A n cap xs hl (by omega) ((hx.below hB4).more hB4.size))
  have hl2 := hl
  have HP2 := Lib.hid hp2
  clear hp1 hp2 hx
  generalize joT xs = T
  generalize joB xs = b
  go_wp2_with fail
  refine HTO.out.mono ?_
  rintro e w5 ⟨v3, rfl, ho5, hb5⟩
  have hB5 : Below w.heap.size w w5 := hB4.trans (hb5.mono hB4.size)
  obtain ⟨S3, k3, rfl, hp3⟩ := ho5.opn
  rw [hl] at hp3 ⊢
  have hp2 := own_below HP2.out hb5 (Nat.le_refl _)
  have HEQ := Lib.hid (eqStringS_t w5 S2 S3 n k2 k3 _ _ xs hl (by omega) (sl_of_own hp2) (sl_of_own hp3))
  clear hp2 hp3 ho5
  go_wp2_with fail
  refine HEQ.out.mono ?_
  rintro e w6 ⟨rfl, m, rfl⟩
  go_wp2
  go_ret
  exact ⟨rfl, below_drewN hB5 _⟩

end Go.Proofs.YthccklkonfappaaDoor
