/-
  Contracts: lists of whole numbers read, of both.
  Conditions: texts of at most 1048576 bytes; the tables and variables of the library lie there.
-/
import Derived.Test.YtajobeajmndglaaDoorDN
namespace Go.Proofs.YtajobeajmndglaaDoor
open Go.RowKit

noncomputable def lstZ (s : ByteArray) : Option (List Int) := if 64 < (pcs s).length then none else valsL (pcs s)
theorem lstZ_len {s : ByteArray} {D : List Int} (h : lstZ s = some D) : D.length ≤ 64 := by
  unfold lstZ at h
  split at h
  · cases h
  · rename_i hn
    rw [valsL_len _ _ h]
    omega


set_option maxRecDepth 100000 in
theorem impl_ReadList_c (w : World) (s : ByteArray) (hs : s.size ≤ 1048576) (hm : maxLenOk w) (ht : Tab w) (he : Errs w) :
    Calls Tryd.prog 16 #[.string s] w (LzPost w (lstZ s)) := by
  have hl : lstZ s = if 64 < (pcs s).length then none else valsL (pcs s) := rfl
  have HR := Lib.hid (impl_readList_c w s hs hm ht he)
  have hpl := pcs_len s
  clear hm ht he
  cases hv : valsL (pcs s) with
  | none =>
    have hno : lstZ s = none := by rw [hl, hv]; split <;> rfl
    rw [hno]
    have HV := Lib.hid hv
    clear hv hl hno
    unfold LzPost at HR ⊢
    rw [HV.out] at HR
    go_enter Tryd.func16, Tryd.ntmps16
    go_wp2_with fail
    refine HR.out.mono ?_
    rintro e w1 ⟨v, rfl, ho, hb⟩
    go_wp2
    go_ret2
    exact ⟨_, rfl, own_nil _ _ _, hb⟩
  | some D =>
    have hD := valsL_len _ _ hv
    rw [hv] at hl HR
    obtain ⟨n, hn⟩ : ∃ n, (pcs s).length = n := ⟨_, rfl⟩
    rw [hn] at hD hl hpl
    clear hn hv
    unfold LzPost at HR ⊢
    by_cases h64 : 64 < n
    · rw [if_pos h64] at hl
      rw [hl]
      clear hl
      go_enter Tryd.func16, Tryd.ntmps16
      go_wp2_with fail
      refine HR.out.mono ?_
      rintro e w1 ⟨v, rfl, ho, hb⟩
      obtain ⟨A, cap, rfl, hp⟩ := ho.opn
      have hpl2 : (D.length : Int) = n := by rw [hD]
      have h642 : 64 < D.length := by omega
      have hDs : D.length ≤ 1048577 := by omega
      have hgd : ((some D).getD []) = D := rfl
      rw [hgd]
      clear ho hp
      go_wp2
      go_ret2
      exact ⟨_, rfl, own_nil _ _ _, hb⟩
    · rw [if_neg h64] at hl
      rw [hl]
      clear hl
      go_enter Tryd.func16, Tryd.ntmps16
      go_wp2_with fail
      refine HR.out.mono ?_
      rintro e w1 ⟨v, rfl, ho, hb⟩
      have HO := Lib.hid ho
      obtain ⟨A, cap, rfl, hp⟩ := ho.opn
      have h642 : ¬ 64 < D.length := by omega
      have hgd : ((some D).getD []) = D := rfl
      rw [hgd] at HO ⊢
      clear ho hp hD h64
      go_wp2
      go_ret2
      exact ⟨_, rfl, HO.out, hb⟩


set_option maxRecDepth 100000 in
set_option maxHeartbeats 1000000 in
theorem spec_l01Numbers_c (w : World) (s : ByteArray) (hs : s.size ≤ 1048576) :
    Calls Tryd.prog 25 #[.string s] w (LzPost w (lstZ s)) := by
  have hl : lstZ s = if 64 < (pcs s).length then none else valsL (pcs s) := rfl
  by_cases hno : s = noneS
  · have e1 : pcs s = [] := by unfold pcs; rw [if_pos hno]
    rw [e1] at hl
    have e2 : lstZ s = some [] := hl
    rw [e2]
    clear e1 e2 hl
    subst hno
    unfold noneS LzPost
    go_enter Tryd.func25, Tryd.ntmps25
    go_wp2
    go_ret2
    exact ⟨_, rfl, own_empty _ _ _ (Nat.le_refl _), (Below.refl _ _).alloc (Nat.le_refl _) _⟩
  · have e1 : pcs s = cutL 44 s.data.toList := by unfold pcs; rw [if_neg hno]
    have HMEM := Lib.hid (fun l (h : l ∈ pcs s) => pcs_mem (s := s) h)
    have HS := Lib.hid (fun W => spec_l01Cut_c W s 44 hs)
    rw [← e1] at HS
    have hln := pcs_len s
    have hcb : (s.toList == [110, 111, 110, 101]) = false := by
      have h := cmpB_no hno
      have e : noneS.toList = [110, 111, 110, 101] := ByteArray.toList_mk _
      rw [e] at h
      exact h
    clear hno e1
    obtain ⟨P, hP⟩ : ∃ P, pcs s = P := ⟨_, rfl⟩
    rw [hP] at hl HS hln HMEM
    rw [hl]
    obtain ⟨n, hn⟩ : ∃ n, P.length = n := ⟨_, rfl⟩
    rw [hn] at hln ⊢
    clear hl hP
    unfold LzPost
    by_cases h64 : 64 < n
    · rw [if_pos h64]
      go_enter Tryd.func25, Tryd.ntmps25
      go_wp2_with (go_at_call 29; refine (HS.out _).mono ?_; rintro e w1 ⟨v, rfl, ho, hb1⟩; obtain ⟨A, cap, rfl, hp⟩ := ho.opn; rw [hn]; clear hp ho)
      go_ret2
      have B0 : Below w.heap.size w (w.alloc (.cells #[] 2)) := (Below.refl _ _).alloc (Nat.le_refl _) _
      exact ⟨_, rfl, own_nil _ _ _, B0.trans (hb1.mono B0.size)⟩
    · rw [if_neg h64]
      go_enter Tryd.func25, Tryd.ntmps25
      go_wp2_with (go_at_call 29; refine (HS.out _).mono ?_; rintro e w1 ⟨v, rfl, ho, hb1⟩; obtain ⟨A, cap, rfl, hp⟩ := ho.opn; rw [hn] at hp ⊢; have HP := Lib.hid hp; clear hp ho)
      have B0 : Below w.heap.size w (w.alloc (.cells #[] 2)) := (Below.refl _ _).alloc (Nat.le_refl _) _
      have B1 : Below w.heap.size w w1 := B0.trans (hb1.mono B0.size)
      have ho1 := own_below (own_empty w w.heap.size 2 (Nat.le_refl _)) hb1 (Nat.le_refl _)
      have hp1 := own_base HP.out B0.size
      have HO1 := Lib.hid ho1
      have HP1 := Lib.hid hp1
      clear ho1 hp1 HP HS
      go_wp2
      go_loopw [4, 6] (fun v i wr => ∃ (k : Nat) (D : List Int), k ≤ n ∧ i = .int .i64 k ∧ Hid (ValsAt P D (P.drop k)) ∧ D.length ≤ k ∧ Hid (Ow wr w.heap.size 2 v (D.map (Value.int .i64))) ∧ Hid (wr.ownsRow w.heap.size 9 1 (.slice A n cap) n (P.map strV)) ∧ Below w.heap.size w wr) (fun _ i _ => n - (intOf i).toNat)
      case atStart => exact ⟨0, [], Nat.zero_le _, rfl, Lib.hid (valsAt_start _), Nat.le_refl _, HO1, HP1, B1⟩
      case round =>
        clear HO1 HP1 hb1 B1
        obtain ⟨k, D, hk, rfl, HV, hDl, HO, HPP, hb⟩ := hrel
        have hz := hb.size
        by_cases hlt : k < n
        · obtain ⟨g, c', hv, hbg, hgs⟩ := HPP.out.form (by omega)
          injection hv with hv hv2 hv3
          subst hv
          clear hv2 hv3
          have hcx := HPP.out.cellAt k (by omega)
          rw [List.getElem?_map, List.getElem?_eq_getElem (by omega)] at hcx
          have hR := HV.out
          rw [List.drop_eq_getElem_cons (by omega)] at hR
          have hxl := HMEM.out _ (List.getElem_mem (l := P) (n := k) (by omega))
          generalize P[k]'(by omega) = l at hcx hR hxl
          have hcx2 : wr.cell? ⟨g, k, none⟩ = some (.string ⟨l.toArray⟩) := hcx
          have hxs : (⟨l.toArray⟩ : ByteArray).size ≤ 1048576 := by show l.toArray.size ≤ _; rw [List.size_toArray]; omega
          have HRD := Lib.hid (spec_l01Value_c wr ⟨l.toArray⟩ hxs)
          have HR2 := Lib.hid hR
          clear hcx hR hxl hxs
          unfold vz at HRD
          cases hvz : valZ ⟨l.toArray⟩ with
          | none =>
            have HS := Lib.hid (valsAt_stop HR2.out hvz)
            rw [hvz] at HRD
            clear hvz HR2
            go_wp2_with (go_at_call 30; refine HRD.out.mono ?_; rintro e w2 ⟨rfl, hb2⟩)
            go_ret2
            exact ⟨.slice none 0 0, by rw [HS.out]; rfl, by rw [HS.out]; exact own_nil _ _ _, hb.trans (hb2.mono hz)⟩
          | some m =>
            have HS := Lib.hid (valsAt_step HR2.out hvz)
            rw [hvz] at HRD
            have hlen : (D.map (Value.int .i64)).length + 1 ≤ 1099511627776 := by rw [List.length_map]; omega
            have hst : (D.map (Value.int .i64)) ++ [Value.int .i64 m] = (D ++ [m]).map (Value.int .i64) := by rw [List.map_append]; rfl
            have HST := Lib.hid hst
            clear hvz HR2 hst
            go_wp2_with (first
              | (go_at_call 30; refine HRD.out.mono ?_; rintro e w2 ⟨rfl, hb2⟩; have hz2 := hb2.size; have ho2 := own_below HO.out hb2 (Nat.le_refl _); have hp2 := own_below HPP.out hb2 (Nat.le_refl _))
              | (at_builtin; go_must (refine appGK Tryd.underlying22 infoInt64 rfl (by decide) rfl _ _ rfl w.heap.size _ _ rfl (World.ownsRow.alloc ho2 _) _ _ _ rfl (cell_new1 _ _ _) rfl hlen (by simp; omega) ?_); intro v' w3 ho3 hg3))
            go_roundw
            case rel =>
              have hp3 := (World.ownsRow.alloc hp2 (.cells #[.int .i64 m] 2)).kept hg3 (own_typesK (World.ownsRow.alloc hp2 (.cells #[.int .i64 m] 2)) (World.ownsRow.alloc ho2 (.cells #[.int .i64 m] 2)) (by decide))
              have hB2 := (hb.trans (hb2.mono hz)).alloc (by omega : w.heap.size ≤ w2.heap.size) (.cells #[.int .i64 m] 2)
              refine ⟨k + 1, D ++ [m], by omega, by go_num, HS, by rw [List.length_append]; show D.length + 1 ≤ _; omega, Lib.hid (by rw [← HST.out]; exact ho3), Lib.hid hp3, below_marked hB2 hg3 (own_in (World.ownsRow.alloc ho2 (.cells #[.int .i64 m] 2))) (Nat.le_refl _) hB2.size⟩
            case measure => simp [intOf]; omega
        · obtain rfl : k = n := by omega
          have hR := HV.out
          rw [List.drop_of_length_le (by omega)] at hR
          have HS := Lib.hid (valsAt_end hR)
          clear hR
          go_wp2
          go_ret2
          exact ⟨_, by rw [HS.out]; rfl, by rw [HS.out]; exact HO.out, hb⟩

end Go.Proofs.YtajobeajmndglaaDoor
