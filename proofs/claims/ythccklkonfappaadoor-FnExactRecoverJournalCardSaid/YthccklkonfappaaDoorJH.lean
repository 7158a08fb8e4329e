/-
  Contracts: a journal recovered, by the program.
  Conditions: texts of at most 16000 bytes; the table of the powers of ten lies there; internal/bytealg.MaxLen's cell holds a number.
-/
import Derived.Test.YthccklkonfappaaDoorJG
import Derived.Test.YthccklkonfappaaDoorSC
namespace Go.Proofs.YthccklkonfappaaDoor
open Go.RowKit

theorem ext_tail (s : ByteArray) (p : Nat) : (s.extract p s.size).data.toList = s.data.toList.drop p := by
  rw [extr_list, List.take_of_length_le (by rw [size_list']; exact Nat.le_refl _)]
theorem ext_line (s : ByteArray) (p i : Nat) : (s.extract p (p + i)).data.toList = (s.data.toList.drop p).take i := by
  rw [extr_list, List.drop_take, Nat.add_sub_cancel_left]
theorem txt_len (l : List UInt8) : (txtL l).length ≤ l.length := by unfold txtL; rw [List.length_drop]; omega
theorem ext_size (s : ByteArray) (p i : Nat) (h : p + i ≤ s.size) : (s.extract p (p + i)).size = i := by
  rw [ByteArray.size_extract]; omega
def RecdPost (w : World) (s : ByteArray) (e : Ending) (w' : World) : Prop := ∃ v, e = .returned (.tuple #[v, .int .i64 ((recG 0 (linesL s)).2 : Nat)]) ∧ Ow w' w.heap.size 9 v ((recG 0 (linesL s)).1.map strV) ∧ Below w.heap.size w w'

theorem cmp_yes {l : List UInt8} {d : ByteArray} (h : (⟨l.toArray⟩ : ByteArray) = d) : (l == d.toList) = true := by
  rw [← h, ByteArray.toList_mk]
  simp
theorem cmp_no {l : List UInt8} {d : ByteArray} (h : ¬ (⟨l.toArray⟩ : ByteArray) = d) : (l == d.toList) = false := by
  rw [beq_eq_false_iff_ne]
  intro he
  apply h
  cases d
  rw [ByteArray.toList_mk] at he
  rw [he]


set_option maxRecDepth 100000 in
set_option maxHeartbeats 1000000 in
theorem impl_recovered_c (w : World) (s : ByteArray) (hs : s.size ≤ 16000) (ht : Tab w) (hm : maxLenOk w) :
    Calls Tryd.prog 45 #[.string s] w (RecdPost w s) := by
  unfold RecdPost
  have HT := Lib.hid ht
  have HM := Lib.hid hm
  have hml := hm.lt
  clear ht hm
  go_enter Tryd.func45, Tryd.ntmps45
  go_wp2
  go_loopw [4, 5, 6] (fun v q i wr => ∃ (p c : Nat) (D : List (List UInt8)), p ≤ s.size ∧ i = .int .i64 p ∧ q = .int .i64 c ∧ c ≤ 65002 ∧ Hid (RecTo (linesL s) D c p (linO (s.data.toList.drop p))) ∧ D.length ≤ p ∧ Hid (Ow wr w.heap.size 9 v (D.map strV)) ∧ Below w.heap.size w wr) (fun _ _ i _ => s.size + 1 - (intOf i).toNat)
  case atStart => exact ⟨0, 0, [], Nat.zero_le _, rfl, rfl, by omega, Lib.hid (recTo_start _), Nat.le_refl _, Lib.hid (own_empty _ _ _ (Nat.le_refl _)), (Below.refl _ _).alloc (Nat.le_refl _) _⟩
  case round =>
    obtain ⟨p, c, D, hp, rfl, rfl, hc, HR, hDl, HO, hb⟩ := hrel
    have hz := hb.size
    have HIB := Lib.hid (Tryd.strings_IndexByte (s.extract p s.size) 10 wr)
    have hix : Lib.indexByte (s.extract p s.size).data.toList (10 : Int).toNat.toUInt8 = Lib.indexByte (s.data.toList.drop p) 10 := by rw [ext_tail]; rfl
    have HIX := Lib.hid hix
    clear hix
    by_cases hno : Lib.indexByte (s.data.toList.drop p) 10 = -1
    · have hR := HR.out
      rw [lin_no hno] at hR
      have HE := Lib.hid (recTo_end hR)
      have HNO := Lib.hid hno
      clear hR hno
      go_wp2_with (go_at_call 63; refine HIB.out.mono ?_; rintro e w1 ⟨rfl, rfl⟩; rw [HIX.out, HNO.out])
      go_ret2
      exact ⟨_, by rw [HE.out]; rfl, by rw [HE.out]; exact HO.out, hb⟩
    · obtain ⟨i, hi⟩ : ∃ i : Nat, Lib.indexByte (s.data.toList.drop p) 10 = i := ⟨(Lib.indexByte (s.data.toList.drop p) 10).toNat, by have := Lib.indexByte_ge (s.data.toList.drop p) 10; omega⟩
      have hil := idx_lt hi
      rw [List.length_drop, size_list'] at hil
      have hR := HR.out
      rw [lin_at hi, List.drop_drop, ← ext_line] at hR
      have hes := ext_size s p i (by omega)
      obtain ⟨m, hmc⟩ := HM.out.below hb hml
      have HCU := Lib.hid (Tryd.strings_Cut (s.extract p (p + i)) ⟨#[32]⟩ m wr (by rw [hes]; omega) hmc)
      have hll : (s.extract p (p + i)).data.toList.length = i := by rw [size_list', hes]
      obtain ⟨l, hle⟩ : ∃ l, (s.extract p (p + i)).data.toList = l := ⟨_, rfl⟩
      rw [hle] at hR hll
      have htl := txt_len l
      have HI := Lib.hid hi
      have HR2 := Lib.hid hR
      by_cases hsp : 0 ≤ spI l
      · have hcut : Lib.cut (s.extract p (p + i)).data.toList (⟨#[32]⟩ : ByteArray).data.toList = (numL l, txtL l, true) := by rw [hle]; exact cut_sp l hsp
        have HCT := Lib.hid hcut
        have hok := ok_sp (c := c) hsp
        have hck : chkS c ⟨(txtL l).toArray⟩ = chkL c (txtL l) := by unfold chkS; simp
        have hcl := chkL_lt (txtL l) hc
        have hts : (⟨(txtL l).toArray⟩ : ByteArray).size ≤ 1048576 := by show (txtL l).toArray.size ≤ _; rw [List.size_toArray]; omega
        have HCH := Lib.hid (fun W => impl_CheckOf_c W c ⟨(txtL l).toArray⟩ hc hts)
        have HD := Lib.hid (fun W (hW : Below w.heap.size w W) => impl_Decimal_c W (chkL c (txtL l)) (by omega) (HT.out.below hW (Nat.le_refl _)))
        have HCK := Lib.hid hck
        have HOK := Lib.hid hok
        have hDS : ∃ q, decS (chkL c (txtL l)) = q := ⟨_, rfl⟩
        obtain ⟨DS, hDS⟩ := hDS
        rw [hDS] at hok
        have HDS := Lib.hid hDS
        have hst : (D.map strV) ++ [Value.string ⟨(txtL l).toArray⟩] = (D ++ [txtL l]).map strV := by rw [List.map_append]; rfl
        have HST := Lib.hid hst
        have hlen : (D.map strV).length + 1 ≤ 1099511627776 := by rw [List.length_map]; omega
        by_cases hcm : (⟨(numL l).toArray⟩ : ByteArray) = DS
        case' pos =>
          have hcb := cmp_yes hcm
          rw [decide_eq_true hcm] at hok
        case' neg =>
          have hcb := cmp_no hcm
          rw [decide_eq_false hcm] at hok
        all_goals
          have HOK := Lib.hid hok
          clear hcut hok hck hts hi hR hle hno hsp hmc hDS hst hcm
          go_wp2_with (first
            | (go_at_call 63; refine HIB.out.mono ?_; rintro e w1 ⟨rfl, rfl⟩; rw [HIX.out, HI.out])
            | (go_at_call 64; refine HCU.out.mono ?_; rintro e w2 ⟨rfl, m2, rfl⟩; rw [HCT.out])
            | (go_at_call 40; refine (HCH.out _).mono ?_; rintro e w3 ⟨rfl, rfl⟩; rw [HCK.out])
            | (go_at_call 36; refine (HD.out _ (below_drewN hb _)).mono ?_; rintro e w4 ⟨rfl, hb4⟩; rw [HDS.out]; have hz4 := (below_undrewN hb4).size; have ho4 := own_below HO.out (below_undrewN hb4) (Nat.le_refl _))
            | (at_builtin; go_must (refine app1 Tryd.underlying40 infoString rfl (by decide) rfl _ _ rfl w.heap.size _ _ rfl (World.ownsRow.alloc ho4 _) _ _ _ rfl (cell_new1 _ _ _) rfl hlen (by simp; omega) ?_); intro v' w5 ho5 hb5))
        · have HE := Lib.hid (recTo_stop HR2.out HOK.out)
          go_ret2
          exact ⟨_, by rw [HE.out]; rfl, by rw [HE.out]; exact ho4, hb.trans ((below_undrewN hb4).mono hz)⟩
        · refine ⟨?_, ?_⟩
          · refine ⟨p + (i + 1), chkL c (txtL l), D ++ [txtL l], by omega, by go_num, rfl, hcl, Lib.hid ?_, by rw [List.length_append]; show D.length + 1 ≤ _; omega, Lib.hid ?_, ((hb.trans ((below_undrewN hb4).mono hz)).alloc (by omega) _).trans hb5⟩
            · have h := recTo_step HR2.out HOK.out
              rw [hll] at h
              exact h
            · rw [← HST.out]
              exact ho5
          · simp [intOf]; omega
      · have hcut : Lib.cut (s.extract p (p + i)).data.toList (⟨#[32]⟩ : ByteArray).data.toList = (l, [], false) := by rw [hle]; exact cut_nosp l hsp
        have HCT := Lib.hid hcut
        have HE := Lib.hid (recTo_stop HR2.out (ok_nosp hsp))
        have HCH := Lib.hid (fun W => impl_CheckOf_c W c ⟨([] : List UInt8).toArray⟩ hc (by decide))
        clear hcut hi hR hle hno hsp hmc
        go_wp2_with (first
          | (go_at_call 63; refine HIB.out.mono ?_; rintro e w1 ⟨rfl, rfl⟩; rw [HIX.out, HI.out])
          | (go_at_call 64; refine HCU.out.mono ?_; rintro e w2 ⟨rfl, m2, rfl⟩; rw [HCT.out])
          | (go_at_call 40; refine (HCH.out _).mono ?_; rintro e w3 ⟨rfl, rfl⟩))
        go_ret2
        exact ⟨_, by rw [HE.out]; rfl, by rw [HE.out]; exact own_below HO.out (below_drewN (Below.refl _ _) _) (Nat.le_refl _), below_drewN hb _⟩

end Go.Proofs.YthccklkonfappaaDoor
