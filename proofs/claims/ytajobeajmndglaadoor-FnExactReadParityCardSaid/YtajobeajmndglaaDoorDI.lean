/-
  Contracts: whole numbers read, by the reference.
  Conditions: texts of at most 1048576 bytes.
-/
import Derived.Test.YtajobeajmndglaaDoorDH
namespace Go.Proofs.YtajobeajmndglaaDoor
open Go.RowKit

theorem size_listI (s : ByteArray) : s.data.toList.length = s.size := by rw [Array.length_toList]; rfl
theorem digV_take (s : ByteArray) {k : Nat} (hk : k < s.size) : digV (s.data.toList.take (k + 1)) = if isDig s[k] then 10 * digV (s.data.toList.take k) + (s[k].toNat - 48) else digV (s.data.toList.take k) := by
  rw [List.take_succ_eq_append_getElem (by rw [size_listI]; exact hk), digV_snoc]
  rfl
theorem digV_bd {s : ByteArray} (h17 : s.size ≤ 17) (k : Nat) : digV (s.data.toList.take k) < 100000000000000000 := by
  have h := digV_lt (s.data.toList.take k)
  have h2 : (s.data.toList.take k).length ≤ 17 := by rw [List.length_take, size_listI]; omega
  have h3 : 10 ^ (s.data.toList.take k).length ≤ 10 ^ 17 := Nat.pow_le_pow_right (by decide) h2
  omega
theorem head_at {s : ByteArray} (h : 0 < s.size) : s.data.toList.head? = some s[0] := by
  rw [List.head?_eq_getElem?, List.getElem?_eq_getElem (by rw [size_listI]; exact h)]
  rfl


set_option maxRecDepth 100000 in
set_option maxHeartbeats 1000000 in
theorem spec_l01Value_c (w : World) (s : ByteArray) (hs : s.size ≤ 1048576) :
    Calls Tryd.prog 30 #[.string s] w fun e w' => e = .returned (vz s) ∧ Below w.heap.size w w' := by
  by_cases hsm : s.size < 1
  · have HNO := Lib.hid (valZ_small (s := s) (.inl hsm))
    go_enter Tryd.func30, Tryd.ntmps30
    go_wp2
    go_ret2
    exact ⟨by unfold vz; rw [HNO.out]; rfl, Below.refl _ _⟩
  by_cases hlg : 17 < s.size
  · have HNO := Lib.hid (valZ_small (s := s) (.inr hlg))
    go_enter Tryd.func30, Tryd.ntmps30
    go_wp2
    go_ret2
    exact ⟨by unfold vz; rw [HNO.out]; rfl, Below.refl _ _⟩
  go_enter Tryd.func30, Tryd.ntmps30
  go_wp2
  go_loop [4, 5] (fun q i => ∃ k v : Nat, k ≤ s.size ∧ i = .int .i64 k ∧ q = .int .i64 v ∧ v < 100000000000000000 ∧ Hid (v = digV (s.data.toList.take k))) (fun _ i => s.size - (intOf i).toNat)
  case atStart => exact ⟨0, 0, Nat.zero_le _, rfl, rfl, by omega, Lib.hid rfl⟩
  case round =>
    obtain ⟨k, v, hk, rfl, rfl, hv, HV⟩ := hrel
    by_cases hlt : k < s.size
    · have h8 := s[k].toNat_lt
      have hst := digV_take s hlt
      have hbd := digV_bd (s := s) (by omega) (k + 1)
      rw [← HV.out] at hst
      by_cases h1 : 48 ≤ s[k].toNat
      · by_cases h2 : s[k].toNat ≤ 57
        · rw [if_pos (by unfold isDig; rw [decide_eq_true h1, decide_eq_true h2]; rfl)] at hst
          rw [hst] at hbd
          have HS := Lib.hid hst
          clear hst HV
          go_wp2
          go_round
          case rel => exact ⟨k + 1, 10 * v + (s[k].toNat - 48), by omega, by go_num, by go_num, hbd, Lib.hid HS.out.symm⟩
          case measure => simp [intOf]; omega
        · rw [if_neg (by unfold isDig; rw [decide_eq_false h2, Bool.and_false]; decide)] at hst
          have HS := Lib.hid hst
          clear hst HV hbd
          go_wp2
          go_round
          case rel => exact ⟨k + 1, v, by omega, by go_num, rfl, hv, Lib.hid HS.out.symm⟩
          case measure => simp [intOf]; omega
      · rw [if_neg (by unfold isDig; rw [decide_eq_false h1, Bool.false_and]; decide)] at hst
        have HS := Lib.hid hst
        clear hst HV hbd
        go_wp2
        go_round
        case rel => exact ⟨k + 1, v, by omega, by go_num, rfl, hv, Lib.hid HS.out.symm⟩
        case measure => simp [intOf]; omega
    · obtain rfl : k = s.size := by omega
      have hfull := HV.out
      rw [List.take_of_length_le (by rw [size_listI]; exact Nat.le_refl _)] at hfull
      have hhd := head_at (s := s) (by omega)
      have hsg : sgnV s = if s[0].toNat = 45 then -(v : Int) else (v : Int) := by
        unfold sgnV
        rw [hhd, ← hfull]
        by_cases h45 : s[0].toNat = 45
        · rw [if_pos h45, if_pos]
          congr 1
          rw [← UInt8.toNat_inj]
          exact h45
        · rw [if_neg h45, if_neg]
          intro h
          apply h45
          rw [Option.some.inj h]
          rfl
      clear hfull hhd HV
      have hpos : (0 : Int) < (s.size : Int) := by omega
      by_cases h45 : s[0].toNat = 45
      case' pos =>
        rw [if_pos h45] at hsg
      case' neg =>
        rw [if_neg h45] at hsg
      all_goals
        obtain ⟨z, hz⟩ : ∃ z, sgnV s = z := ⟨_, rfl⟩
        rw [hz] at hsg
        have HSG := Lib.hid hsg
        have HIN := Lib.hid (spec_l00In_c w z (-1000000000000000) 1000000000000000)
        rw [hsg] at HIN
        cases hi : inB z (-1000000000000000) 1000000000000000
        · have hno : valZ s = none := valZ_sgn fun ho => by
            rw [hz] at ho
            have := inB_true.2 ⟨ho.1, ho.2.1⟩
            rw [hi] at this
            cases this
          have HNO := Lib.hid hno
          rw [hsg] at hi
          have HI := Lib.hid hi
          clear hno hi hz hsg
          go_wp2_with (go_at_call 41; refine HIN.out.mono ?_; rintro e w' ⟨rfl, rfl⟩; rw [HI.out])
          go_ret2
          exact ⟨by unfold vz; rw [HNO.out]; rfl, Below.refl _ _⟩
        · obtain ⟨h0, h1⟩ := inB_true.1 hi
          have HD := Lib.hid (spec_l01DecZ_c w z h0 h1)
          rw [hsg] at HD hi
          have HI := Lib.hid hi
          by_cases hd : decZ z = s
          · have hcb := cmpB_yes hd
            have HY := Lib.hid (valZ_yes (s := s) (n := z) ⟨h0, h1, hd⟩)
            rw [hsg] at hcb
            clear hd hi hz hsg h0 h1
            go_wp2_with (first
              | (go_at_call 41; refine HIN.out.mono ?_; rintro e w' ⟨rfl, rfl⟩; rw [HI.out])
              | (go_at_call 42; refine HD.out.mono ?_; rintro e w2 ⟨rfl, hb2⟩))
            go_ret2
            exact ⟨by unfold vz; rw [HY.out, HSG.out]; rfl, hb2⟩
          · have hcb := cmpB_no hd
            have hno : valZ s = none := valZ_sgn fun ho => by
              rw [hz] at ho
              exact hd ho.2.2
            have HNO := Lib.hid hno
            rw [hsg] at hcb
            clear hd hno hi hz hsg h0 h1
            go_wp2_with (first
              | (go_at_call 41; refine HIN.out.mono ?_; rintro e w' ⟨rfl, rfl⟩; rw [HI.out])
              | (go_at_call 42; refine HD.out.mono ?_; rintro e w2 ⟨rfl, hb2⟩))
            go_ret2
            exact ⟨by unfold vz; rw [HNO.out]; rfl, hb2⟩

end Go.Proofs.YtajobeajmndglaaDoor
