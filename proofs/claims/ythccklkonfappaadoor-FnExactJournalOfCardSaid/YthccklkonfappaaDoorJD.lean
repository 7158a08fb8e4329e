/-
  Contracts: texts of journals, of both: the walks.
  Conditions: at most 1048576 texts, of at most 1048576 bytes together; the table of the powers of ten lies there.
-/
import Derived.Test.YthccklkonfappaaDoorJC
import Derived.OwnWalk
namespace Go.Proofs.YthccklkonfappaaDoor
open Go.RowKit


set_option maxRecDepth 100000 in
set_option maxHeartbeats 1000000 in
theorem impl_JournalOf_c (w : World) (A : Option Addr) (n cap : Nat) (xs : List ByteArray) (hl : xs.length = n) (hn : totS xs + n ≤ 1048576) (hx : Sl w w.heap.size A (xs.map Value.string)) (ht : Tab w) :
    Calls Tryd.prog 20 #[.slice A n cap] w fun e w' => e = .returned (.tuple #[.string (joT xs), .bool (joB xs)]) ∧ Below w.heap.size w w' := by
  have HT := Lib.hid ht
  clear ht
  have hfr := Lib.fresh_isBuilder 66 5 w
  have HFR := Lib.hid hfr
  clear hfr
  go_enter Tryd.func20, Tryd.ntmps20
  go_wp2
  go_loopw [5, 11] (fun q i wr => ∃ k c : Nat, k ≤ n ∧ i = .int .i64 k ∧ q = .int .i64 c ∧ c ≤ 65002 ∧ Hid (c = sumS 0 (xs.take k)) ∧ Hid (∀ x ∈ xs.take k, nlB x = false) ∧ Hid ((jourS 0 (xs.take k)).size ≤ 16000) ∧ Hid (Lib.IsBuilder 66 5 w.heap.size w.heap.size (Lib.strCells (jourS 0 (xs.take k))) wr) ∧ Below w.heap.size w wr) (fun _ i _ => n - (intOf i).toNat)
  case atStart => exact ⟨0, 0, Nat.zero_le _, rfl, rfl, by omega, Lib.hid rfl, Lib.hid (fun x h => by simp at h), Lib.hid (by show 0 ≤ 16000; omega), HFR, (Below.refl _ _).alloc (Nat.le_refl _) _⟩
  case round =>
    clear HFR
    obtain ⟨k, c, hk, rfl, rfl, hc, HC, HN, HJ, HB, hb⟩ := hrel
    have hz := hb.size
    by_cases hlt : k < n
    · obtain ⟨b, off, rfl, hbb, hcx⟩ := (hx.below hb).get k (by omega)
      have hj := jour_step (xs := xs) (k := k) (by omega)
      have hs := sum_step (xs := xs) (k := k) (by omega)
      have hmem : xs[k]'(by omega) ∈ xs := List.getElem_mem _
      have htk : ∀ y ∈ xs.take (k + 1), y ∈ xs.take k ∨ y = xs[k]'(by omega) := fun y hy => by
        rw [List.take_succ_eq_append_getElem (by omega), List.mem_append] at hy
        simpa using hy
      generalize xs[k]'(by omega) = x at hcx hj hs hmem htk
      have hxs := totS_mem hmem
      rw [← HC.out] at hj hs
      have hrec : recS c x = ((decS (chkS c x) ++ ⟨#[32]⟩) ++ x) ++ ⟨#[10]⟩ := rfl
      have hcl := chkS_lt x hc
      have hds := decS_size (chkS c x)
      have HCH := Lib.hid (impl_CheckOf_c wr c x hc (by omega))
      have HD := Lib.hid (impl_Decimal_c wr (chkS c x) (by omega) (HT.out.below hb (Nat.le_refl _)))
      have HCO := Lib.hid (Tryd.strings_Contains_one x 10 wr)
      have hnx : decide (0 ≤ Lib.indexByte x.data.toList 10) = nlB x := rfl
      have HNX := Lib.hid hnx
      generalize decS (chkS c x) = D at hrec hds HD
      have hDs : D.size ≤ 65003 := by omega
      have hXs : x.size ≤ 1048576 := by omega
      have HJS := Lib.hid hj
      have HSS := Lib.hid hs
      have HM := Lib.hid hmem
      have HTK := Lib.hid htk
      have HREC := Lib.hid hrec
      clear hj hs hmem htk hrec hx hds hxs hnx
      cases hnl : nlB x
      · have HNL := Lib.hid hnl
        clear hnl
        have hpre := HJ.out
        generalize hSg : jourS 0 (xs.take k) = S at HB HJS hpre
        clear hSg
        by_cases hlong : 16000 < (S ++ recS c x).size
        all_goals
          have hrs : (((D ++ ⟨#[32]⟩) ++ x) ++ ⟨#[10]⟩ : ByteArray).size = D.size + x.size + 2 := by
            rw [ByteArray.size_append, ByteArray.size_append, ByteArray.size_append]
            show _ + 1 + _ + 1 = _
            omega
          have hcmp := hlong
          rw [ByteArray.size_append, HREC.out, hrs] at hcmp
          have HLO := Lib.hid hlong
          clear hlong
          go_wp2_with (first
            | (go_at_call 39; refine HCO.out.mono ?_; rintro e w1 ⟨rfl, rfl⟩; rw [HNX.out, HNL.out])
            | (go_at_call 40; refine HCH.out.mono ?_; rintro e w1 ⟨rfl, rfl⟩)
            | (go_at_call 36; refine HD.out.mono ?_; rintro e w2 ⟨rfl, hb2⟩; have HB2 := Lib.hid (IsB.below HB.out hb2); have hz2 := hb2.size)
            | (go_at_call 41; refine (WriteString_c w.heap.size w.heap.size _ _ w2 HB2.out (by rw [strCells_len, hrs]; omega) (by omega)).mono ?_; rintro e w3 ⟨rfl, hB3, hb3⟩; rw [strCells_app] at hB3; have HB3 := Lib.hid hB3; clear hB3)
            | (go_at_call 42; refine (Tryd.Builder_Len w.heap.size w.heap.size _ w3 (.inr HB3.out)).mono ?_; rintro e w4 ⟨rfl, rfl⟩; rw [strCells_len, ByteArray.size_append]))
        · go_ret2
          have HLG := Lib.hid (jo_long (xs := xs) (k := k + 1) (by rw [HJS.out]; exact HLO.out))
          exact ⟨by unfold joT; rw [HLG.out]; rfl, (hb.trans (hb2.mono hz)).trans hb3⟩
        · refine ⟨?_, ?_⟩
          · refine ⟨k + 1, chkS c x, by omega, by go_num, rfl, hcl, Lib.hid HSS.out.symm, Lib.hid (fun y hy => ?_), Lib.hid (by rw [HJS.out]; have := HLO.out; omega), Lib.hid ?_, (hb.trans (hb2.mono hz)).trans hb3⟩
            · rcases HTK.out y hy with h | rfl
              · exact HN.out y h
              · exact HNL.out
            · rw [HJS.out, HREC.out]
              exact .inr HB3.out
          · simp [intOf]; omega
      · have HNL := Lib.hid hnl
        clear hnl
        have HF := Lib.hid (jo_nl HM.out HNL.out)
        go_wp2_with (go_at_call 39; refine HCO.out.mono ?_; rintro e w1 ⟨rfl, rfl⟩; rw [HNX.out, HNL.out])
        go_ret2
        exact ⟨by unfold joT; rw [HF.out]; rfl, hb⟩
    · obtain rfl : k = n := by omega
      have htk : xs.take k = xs := List.take_of_length_le (by omega)
      have hn' := HN.out
      have hj' := HJ.out
      have hb' := HB.out
      rw [htk] at hn' hj' hb'
      rw [Lib.strCells_eq] at hb'
      have HY := Lib.hid (jo_yes hn' hj')
      have HS := Lib.hid (Tryd.Builder_String_any w.heap.size w.heap.size _ wr hb' hz)
      clear hn' hj' hb' htk HB HJ HN HC
      go_wp2_with (go_at_call 43; refine HS.out.mono ?_; rintro e w2 ⟨rfl, hb2⟩)
      go_ret2
      exact ⟨by unfold joT; rw [HY.out]; rfl, hb.trans hb2⟩

end Go.Proofs.YthccklkonfappaaDoor
