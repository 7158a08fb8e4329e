/-
  Contracts: a journal recovered, by the reference.
  Conditions: texts of at most 16000 bytes.
-/
import Derived.Test.YthccklkonfappaaDoorJH
import Derived.Deep.RegionHeld3
namespace Go.Proofs.YthccklkonfappaaDoor
open Go.RowKit

theorem cutL_mem (c : UInt8) : ∀ (l : List UInt8), ∀ x ∈ cutL c l, x.length ≤ l.length
  | [], x, h => by
    obtain rfl : x = [] := by simpa [cutL] using h
    exact Nat.le_refl _
  | b :: l, x, h => by
    have ih := cutL_mem c l
    rw [cutL] at h
    split at h
    · rcases List.mem_cons.1 h with rfl | h
      · exact Nat.zero_le _
      · have := ih x h
        simp only [List.length_cons]
        omega
    · cases hc : cutL c l with
      | nil => exact absurd hc (cutL_ne _ _)
      | cons y ys =>
        rw [hc] at h ih
        simp only [List.headD_cons, List.tail_cons] at h
        rcases List.mem_cons.1 h with rfl | h
        · have := ih y List.mem_cons_self
          simp only [List.length_cons]
          omega
        · have := ih x (List.mem_cons_of_mem _ h)
          simp only [List.length_cons]
          omega
theorem lines_mem {s : ByteArray} {l : List UInt8} (h : l ∈ linesL s) : l.length ≤ s.size := by
  have := cutL_mem 10 s.data.toList l (List.dropLast_subset _ h)
  rwa [size_list'] at this
theorem sp_at {x : ByteArray} {j : Nat} (hj : j < x.size) (h : x[j].toNat = 32) (hb : ∀ m (hm : m < x.size), m < j → x[m].toNat ≠ 32) : spI x.data.toList = j := by
  unfold spI
  have hjl : j < x.data.toList.length := by rw [size_list']; exact hj
  have hget : ∀ m (hm : m < x.size), x.data.toList[m]? = some x[m] := fun m hm => by
    rw [List.getElem?_eq_getElem (by rw [size_list']; exact hm)]
    rfl
  by_cases hn : Lib.indexByte x.data.toList 32 = -1
  · refine absurd ?_ (Lib.indexByte_none hn j)
    rw [hget j hj]
    congr 1
    rw [← UInt8.toNat_inj]
    exact h
  · obtain ⟨o, ho⟩ : ∃ o : Nat, Lib.indexByte x.data.toList 32 = o := ⟨(Lib.indexByte x.data.toList 32).toNat, by have := Lib.indexByte_ge x.data.toList 32; omega⟩
    have hol := idx_lt ho
    rw [size_list'] at hol
    obtain ⟨h1, h2⟩ := Lib.indexByte_some ho
    rw [ho]
    rcases Nat.lt_trichotomy o j with hlt | rfl | hlt
    · rw [hget o hol] at h1
      have := hb o hol hlt
      rw [Option.some.inj h1] at this
      exact absurd rfl this
    · rfl
    · refine absurd ?_ (h2 j hlt)
      rw [hget j hj]
      congr 1
      rw [← UInt8.toNat_inj]
      exact h
theorem sp_none {x : ByteArray} (hb : ∀ m (hm : m < x.size), x[m].toNat ≠ 32) : ¬ 0 ≤ spI x.data.toList := by
  unfold spI
  intro hn
  obtain ⟨o, ho⟩ : ∃ o : Nat, Lib.indexByte x.data.toList 32 = o := ⟨(Lib.indexByte x.data.toList 32).toNat, by omega⟩
  have h1 := (Lib.indexByte_some ho).1
  obtain ⟨hlt, h2⟩ := List.getElem?_eq_some_iff.1 h1
  rw [size_list'] at hlt
  refine hb o hlt ?_
  show (x.data.toList[o]'(by rw [size_list']; exact hlt)).toNat = 32
  rw [h2]
  rfl
theorem cmpB_yes {a d : ByteArray} (h : a = d) : (a.toList == d.toList) = true := by rw [h]; simp
theorem cmpB_no {a d : ByteArray} (h : ¬ a = d) : (a.toList == d.toList) = false := by
  rw [beq_eq_false_iff_ne]
  intro he
  apply h
  cases a
  cases d
  rw [ByteArray.toList_mk, ByteArray.toList_mk] at he
  rw [Array.toList_inj.1 he]
theorem num_ext {x : ByteArray} {j : Nat} (h : spI x.data.toList = j) : x.extract 0 j = ⟨(numL x.data.toList).toArray⟩ := by
  apply bytes_eq
  rw [extr_list]
  unfold numL
  rw [h]
  rfl
theorem txt_ext {x : ByteArray} {j : Nat} (h : spI x.data.toList = j) : x.extract (j + 1) x.size = ⟨(txtL x.data.toList).toArray⟩ := by
  apply bytes_eq
  rw [ext_tail]
  unfold txtL
  rw [h]
  rfl


set_option maxRecDepth 100000 in
set_option maxHeartbeats 2000000 in
theorem spec_l08Recover_c (w : World) (s : ByteArray) (hs : s.size ≤ 16000) :
    Calls Tryd.prog 44 #[.string s] w (RecdPost w s) := by
  unfold RecdPost
  have hle := lines_le s
  have HL := Lib.hid (spec_l08Lines_c w s (by omega))
  have hmem : ∀ l ∈ linesL s, l.length ≤ 16000 := fun l h => Nat.le_trans (lines_mem h) hs
  have HMEM := Lib.hid hmem
  clear hmem
  go_enter Tryd.func44, Tryd.ntmps44
  go_wp2_with fail
  refine HL.out.mono ?_
  rintro e w1 ⟨A, cap, rfl, hsl, hb1⟩
  have hz1 := hb1.size
  obtain ⟨L, hL⟩ : ∃ L, linesL s = L := ⟨_, rfl⟩
  rw [hL] at hsl hle HMEM ⊢
  have HLL := Lib.hid hL
  obtain ⟨n, hn⟩ : ∃ n, L.length = n := ⟨_, rfl⟩
  rw [hn] at hle ⊢
  clear HL hL
  go_wp2
  go_loopw [6, 7, 8, 9] (fun v q t i wr => ∃ (k c p : Nat) (D : List (List UInt8)), k ≤ n ∧ i = .int .i64 k ∧ q = .int .i64 c ∧ t = .int .i64 p ∧ c ≤ 65002 ∧ p ≤ k * 16001 ∧ Hid (RecTo L D c p (L.drop k)) ∧ D.length ≤ k ∧ Hid (Ow wr w1.heap.size 9 v (D.map strV)) ∧ Below w1.heap.size w1 wr) (fun _ _ _ i _ => n - (intOf i).toNat)
  case atStart => exact ⟨0, 0, 0, [], Nat.zero_le _, rfl, rfl, rfl, by omega, by omega, Lib.hid (recTo_start _), Nat.le_refl _, Lib.hid (own_empty _ _ _ (Nat.le_refl _)), (Below.refl _ _).alloc (Nat.le_refl _) _⟩
  case round =>
    obtain ⟨k, c, p, D, hk, rfl, rfl, rfl, hc, hp, HR, hDl, HO, hb⟩ := hrel
    have hz := hb.size
    have hB := hb1.trans (hb.mono hz1)
    by_cases hlt : k < n
    · obtain ⟨b, off, rfl, hbb, hcx⟩ := (hsl.below hb).get k (by omega)
      have hR := HR.out
      rw [List.drop_eq_getElem_cons (by omega)] at hR
      have hxl := HMEM.out _ (List.getElem_mem (l := L) (n := k) (by omega))
      generalize L[k]'(by omega) = l at hcx hR hxl
      obtain ⟨x, hx⟩ : ∃ x : ByteArray, x.data.toList = l := ⟨⟨l.toArray⟩, rfl⟩
      rw [← strV_eq hx] at hcx
      subst hx
      have hxs : x.size ≤ 16000 := by rw [← size_list']; exact hxl
      have HR2 := Lib.hid hR
      clear hR hxl hsl
      go_wp2
      go_loop [10] (fun i => ∃ j : Nat, j ≤ x.size ∧ i = .int .i64 j ∧ Hid (∀ m (hm : m < x.size), m < j → x[m].toNat ≠ 32)) (fun i => x.size - (intOf i).toNat)
      case atStart => exact ⟨0, Nat.zero_le _, rfl, Lib.hid (fun m _ h => by omega)⟩
      case round =>
        obtain ⟨j, hj, rfl, HI⟩ := hrel
        by_cases hlt2 : j < x.size
        · by_cases h32 : x[j].toNat = 32
          · have hsp := sp_at hlt2 h32 HI.out
            have htx := txt_ext hsp
            have hnx := num_ext hsp
            have hok := ok_sp (c := c) (show 0 ≤ spI x.data.toList by rw [hsp]; omega)
            rw [← hnx] at hok
            have hck : chkS c (x.extract (j + 1) x.size) = chkL c (txtL x.data.toList) := by rw [htx]; unfold chkS; simp
            have hcl := chkL_lt (txtL x.data.toList) hc
            have hts : (x.extract (j + 1) x.size).size ≤ 1048576 := by rw [ByteArray.size_extract]; omega
            have HCH := Lib.hid (spec_l01Check_c wr c (x.extract (j + 1) x.size) hc hts)
            have HD := Lib.hid (spec_l01Dec_c wr.drew (chkL c (txtL x.data.toList)) (by omega))
            obtain ⟨DS, hDS⟩ : ∃ q, decS (chkL c (txtL x.data.toList)) = q := ⟨_, rfl⟩
            rw [hDS] at hok HD
            obtain ⟨N, hN⟩ : ∃ q, chkL c (txtL x.data.toList) = q := ⟨_, rfl⟩
            rw [hN] at hck HD hcl
            have hst : (D.map strV) ++ [Value.string (x.extract (j + 1) x.size)] = (D ++ [txtL x.data.toList]).map strV := by rw [htx, List.map_append]; rfl
            have hlen : (D.map strV).length + 1 ≤ 1099511627776 := by rw [List.length_map]; omega
            have hjn : ((j : Int) == (x.size : Int)) = false := by rw [beq_eq_false_iff_ne]; omega
            have HCK := Lib.hid hck
            have HST := Lib.hid hst
            have HNN := Lib.hid hN
            by_cases hcm : x.extract 0 j = DS
            case' pos =>
              have hcb := cmpB_yes hcm
              rw [decide_eq_true hcm] at hok
            case' neg =>
              have hcb := cmpB_no hcm
              rw [decide_eq_false hcm] at hok
            all_goals
              have HOK := Lib.hid hok
              clear hok hck hst hN hcm hDS hsp htx hnx hts
              go_wp2_with (go_at_call 59; refine HCH.out.mono ?_; rintro e w2 ⟨rfl, rfl⟩; rw [HCK.out])
              go_region_held3 (fun w' => w'.cell? ⟨b, off + k, none⟩ = some (.string x))
                (first | exact d0' | exact hcx)
                (first
                  | (go_at_call 49; refine HD.out.mono ?_; rintro e w3 ⟨rfl, hb3⟩; have hb3 := below_undrew hb3; have d0' := (hb3.cell (p := ⟨b, off + k, none⟩) (by simp only []; omega)).trans hcx))
              have ho3 := own_below HO.out hb3 (Nat.le_refl _)
              have hz3 := hb3.size
            · have HE := Lib.hid (recTo_stop HR2.out HOK.out)
              go_wp2
              go_ret2
              exact ⟨_, by rw [HLL.out, HE.out]; rfl, by rw [HLL.out, HE.out]; exact own_base ho3 hz1, hB.trans (hb3.mono (by omega))⟩
            · go_wp2_with (at_builtin; go_must (refine app1 Tryd.underlying40 infoString rfl (by decide) rfl _ _ rfl w1.heap.size _ _ rfl (World.ownsRow.alloc ho3 _) _ _ _ rfl (cell_new1 _ _ _) rfl hlen (by simp; omega) ?_); intro v' w5 ho5 hb5; have d1 := (hb5.cell (p := ⟨b, off + k, none⟩) hbb).trans ((((Below.refl w1.heap.size w3).alloc (by omega) _).cell (p := ⟨b, off + k, none⟩) hbb).trans d0'))
              refine ⟨?_, ?_⟩
              · refine ⟨k + 1, N, p + (x.size + 1), D ++ [txtL x.data.toList], by omega, by go_num, rfl, by go_num, hcl, by omega, Lib.hid ?_, by rw [List.length_append]; show D.length + 1 ≤ _; omega, Lib.hid ?_, ((hb.trans (hb3.mono hz)).alloc (by omega) _).trans hb5⟩
                · have h := recTo_step HR2.out HOK.out
                  rw [HNN.out, size_list'] at h
                  exact h
                · rw [← HST.out]
                  exact ho5
              · simp [intOf]; omega
          · go_wp2
            go_round
            case rel =>
              refine ⟨j + 1, by omega, by go_num, Lib.hid (fun m hm hmj => ?_)⟩
              by_cases he : m = j
              · subst he
                exact h32
              · exact HI.out m hm (by omega)
            case measure => simp [intOf]; omega
        · obtain rfl : j = x.size := by omega
          have HE := Lib.hid (recTo_stop HR2.out (ok_nosp (sp_none fun m hm => HI.out m hm hm)))
          go_wp2
          go_ret2
          exact ⟨_, by rw [HLL.out, HE.out]; rfl, by rw [HLL.out, HE.out]; exact own_base HO.out hz1, hB⟩
    · obtain rfl : k = n := by omega
      have hR := HR.out
      rw [List.drop_of_length_le (by omega)] at hR
      have HE := Lib.hid (recTo_end hR)
      clear hR
      go_wp2
      go_ret2
      exact ⟨_, by rw [HLL.out, HE.out]; rfl, by rw [HLL.out, HE.out]; exact own_base HO.out hz1, hB⟩

end Go.Proofs.YthccklkonfappaaDoor
