/-
  Contracts: what a bit is told (the reference's).
  Conditions: at most 32 rows of at most 32 numbers; bounds so that no sum overflows.
-/
import Derived.Test.YtepdjehbgkfjhaaGC
namespace Go.Proofs.Ytepdjehbgkfjhaa
open Go.RowKit

theorem rowW_low {l : List Int} {ms : List Nat} {a c s : Nat} {bit : Int} (hc : c + 2 ≤ 120) (hac : a ≤ c) (hs : Low c s) (hM : ∀ k, k < l.length → Low a (ms.getD k 0)) (ho : Once l) : ∀ k, k ≤ l.length → Low (c + 2) (rowW l ms bit s k) ∧ ((∀ j, j < k → l.getD j 0 ≠ bit) → Low c (rowW l ms bit s k)) := by
  intro k hk
  by_cases h : ∃ j, j < k ∧ l.getD j 0 = bit
  · obtain ⟨j, j1, j2⟩ := h
    refine ⟨?_, fun hn => absurd j2 (hn j j1)⟩
    rw [rowW_one _ _ j1 j2 fun i hi he => ho i j (by omega) (by omega) (he.trans j2.symm)]
    exact (vadd_low (by omega) (by omega) hs (hM j (by omega))).2
  · have hn : ∀ j, j < k → l.getD j 0 ≠ bit := fun j hj he => h ⟨j, hj, he⟩
    rw [rowW_no _ _ hn]
    exact ⟨hs.mono (by omega), fun _ => hs⟩


set_option maxRecDepth 100000 in
set_option maxHeartbeats 8000000 in
theorem spec_l07To_c (w : World) (b B : Nat) (A As Am : Option Addr) (n cap ns caps nm capm a bit : Nat) (ys : List RowH) (ms : List RowG) (soft : List Nat) (without : Int) (h1 : w.cell? ⟨b, 1, none⟩ = some (.slice A n cap)) (hl : ys.length = n) (hn : n ≤ 32) (hr : ∀ r ∈ ys, r.2.2.length ≤ 32) (hx : Sl2 w B A ys)
    (hls : soft.length = ns) (hs : Sl w B As (soft.map (Value.float .f32))) (hlm : ms.length = n) (hnm : nm = n) (hxm : Sl2G w B Am ms) (hsh : ∀ r (h1 : r < ms.length) (h2 : r < ys.length), ms[r].2.2.length = ys[r].2.2.length) (hb : bit < ns)
    (ha : a + 2 * n ≤ 118) (hsl : Low a (soft.getD bit 0)) (hM : ∀ r, r < n → ∀ k, k < ((dat ys).getD r []).length → Low a (((datG ms).getD r []).getD k 0)) (ho : ∀ r, r < n → Once ((dat ys).getD r [])) :
    Calls Try.prog 35 #[.pointer (some ⟨b, 0, none⟩), .slice As ns caps, .slice Am nm capm, .int .i64 without, .int .i64 (bit : Int)] w fun e w' => e = .returned (.float .f32 (toldW (dat ys) (datG ms) (soft.getD bit 0) bit without n)) ∧ ∃ k, w' = w.drewN k := by
  have HLOW := Lib.hid (toldW_low (bit := (bit : Int)) (without := without) (show a + 2 * n ≤ 120 by omega) hsl hM ho)
  have HM := Lib.hid hM
  have HO := Lib.hid ho
  have HX := Lib.hid hx
  have HXM := Lib.hid hxm
  have HR := Lib.hid hr
  have HSH := Lib.hid hsh
  obtain ⟨bs, os, rfl, hbs, cs⟩ := hs.get bit (by omega)
  have hgd : soft.getD bit 0 = soft[bit]'(by omega) := by rw [List.getD_eq_getElem?_getD, List.getElem?_eq_getElem (by omega)]; rfl
  rw [← hgd] at cs
  obtain ⟨s0, hs0⟩ : ∃ s0, soft.getD bit 0 = s0 := ⟨_, rfl⟩
  rw [hs0] at cs HLOW ⊢
  clear hM ho hx hxm hr hsh hs hgd hs0 hsl
  subst hnm
  go_enter Try.func35, Try.ntmps35
  go_wp2_with fail
  go_loopw [11, 23] (fun v i wr => ∃ r : Nat, r ≤ nm ∧ i = .int .i64 (r : Int) ∧ v = .float .f32 (toldW (dat ys) (datG ms) s0 bit without r) ∧ ∃ k, wr = w.drewN k) (fun _ i _ => nm - (intOf i).toNat)
  case atStart => exact ⟨0, Nat.zero_le _, rfl, rfl, 0, rfl⟩
  case round =>
    obtain ⟨r, hr, rfl, rfl, d, rfl⟩ := hrel
    by_cases hlt : r < nm
    · have hry : r < ys.length := by omega
      have hrm : r < ms.length := by omega
      obtain ⟨b1, o1, rfl, hbb1, c1⟩ := HX.out.1.get r hry
      obtain ⟨b2, o2, rfl, hbb2, c2⟩ := HXM.out.1.get r hrm
      have hrow := HX.out.2 (ys[r]'hry) (List.getElem_mem _)
      have hrowm := HXM.out.2 (ms[r]'hrm) (List.getElem_mem _)
      have hlen := HR.out (ys[r]'hry) (List.getElem_mem _)
      have hshr := HSH.out r hrm hry
      have hd1 : (dat ys).getD r [] = (ys[r]'hry).2.2 := by simp [dat, List.getD_eq_getElem?_getD, hry]
      have hd2 : (datG ms).getD r [] = (ms[r]'hrm).2.2 := by simp [datG, List.getD_eq_getElem?_getD, hrm]
      have hst : toldW (dat ys) (datG ms) s0 bit without (r + 1) = if (r : Int) = without then toldW (dat ys) (datG ms) s0 bit without r else rowW (ys[r]'hry).2.2 (ms[r]'hrm).2.2 bit (toldW (dat ys) (datG ms) s0 bit without r) (ys[r]'hry).2.2.length := by
        rw [toldW, hd1, hd2]
      have hml := HM.out r hlt
      rw [hd1, hd2] at hml
      have hoo := HO.out r hlt
      rw [hd1] at hoo
      have hlo := HLOW.out r (by omega)
      obtain ⟨⟨ra, rc, rl⟩, hrr⟩ : ∃ x, ys[r]'hry = x := ⟨_, rfl⟩
      obtain ⟨⟨qa, qc, ql⟩, hqq⟩ : ∃ x, ms[r]'hrm = x := ⟨_, rfl⟩
      rw [hrr] at c1 hrow hlen hshr hst hml hoo
      rw [hqq] at c2 hrowm hshr hst hml
      simp only [rowV, rowGV] at c1 c2 hrow hrowm hlen hshr hst hml hoo
      obtain ⟨sm, hsm⟩ : ∃ sm, toldW (dat ys) (datG ms) s0 bit without r = sm := ⟨_, rfl⟩
      rw [hsm] at hst hlo ⊢
      have hrl := rowW_low (bit := (bit : Int)) (c := a + 2 * r) (by omega) (by omega) hlo hml hoo
      have HST := Lib.hid hst
      have HML := Lib.hid hml
      have HOO := Lib.hid hoo
      have HRL := Lib.hid hrl
      have HRM := Lib.hid hrowm
      have HRW := Lib.hid hrow
      obtain ⟨ln, hln⟩ : ∃ ln, rl.length = ln := ⟨_, rfl⟩
      rw [hln] at hlen hshr c1
      have HLN := Lib.hid hln
      clear hst hrow hrowm hml hoo hlo hd1 hd2 hrr hqq hsm hrl hln
      go_wp2_with fail
      go_loopw [11, 34] (fun v i wr => ∃ t : Nat, t ≤ ln ∧ i = .int .i64 (t : Int) ∧ v = .float .f32 (if (r : Int) = without then sm else rowW rl ql bit sm t) ∧ ∃ k, wr = w.drewN k) (fun _ i _ => ln - (intOf i).toNat)
      case atStart => exact ⟨0, Nat.zero_le _, rfl, by split <;> rfl, d, rfl⟩
      case round =>
        obtain ⟨t, ht, rfl, rfl, d2, rfl⟩ := hrel
        by_cases hlt2 : t < ln
        · have htl : t < rl.length := by rw [HLN.out]; exact hlt2
          obtain ⟨b3, o3, rfl, hbb3, c3⟩ := HRW.out.get t htl
          have hg3 : rl.getD t 0 = rl[t]'htl := by rw [List.getD_eq_getElem?_getD, List.getElem?_eq_getElem htl]; rfl
          rw [← hg3] at c3
          by_cases hw : (r : Int) = without
          · have hne : ((r : Int) != without) = false := by simp [hw]
            rw [if_pos hw]
            clear hg3
            go_wp2_with fail
            go_roundw
            case rel => exact ⟨t + 1, hlt2, by go_num, by rw [if_pos hw], _, rfl⟩
            case measure => simp [intOf]; omega
          · have hne : ((r : Int) != without) = true := by simp [hw]
            rw [if_neg hw]
            by_cases heq : rl.getD t 0 = (bit : Int)
            · have hst : rowW rl ql bit sm (t + 1) = vop .add (rowW rl ql bit sm t) (ql.getD t 0) := by rw [rowW, if_pos heq]
              obtain ⟨sq, hsq⟩ : ∃ sq, rowW rl ql bit sm t = sq := ⟨_, rfl⟩
              have hlq := (HRL.out t (by omega)).1
              rw [hsq] at hst hlq ⊢
              have htq : t < ql.length := by omega
              obtain ⟨b4, o4, rfl, hbb4, c4⟩ := HRM.out.get t htq
              have hg4 : ql.getD t 0 = ql[t]'htq := by rw [List.getD_eq_getElem?_getD, List.getElem?_eq_getElem htq]; rfl
              rw [← hg4] at c4
              have hul := HML.out t htl
              obtain ⟨u, hu⟩ : ∃ u, ql.getD t 0 = u := ⟨_, rfl⟩
              rw [hu] at c4 hst hul
              obtain ⟨⟨z, hz⟩, _⟩ := vadd_low (by omega) (by omega) hlq hul
              have f1 := fun t d => fres_vop hz t d
              have f2 : fdr .add .f32 sq u = 0 := by simp [fdr, hz]
              have HS2 := Lib.hid hst
              rw [heq] at c3
              have hbe : ((bit : Int) == (bit : Int)) = true := by simp
              clear hg3 hg4 hst hu hul hlq hz hsq heq
              go_wp2_with fail
              go_roundw
              case rel => exact ⟨t + 1, hlt2, by go_num, by rw [if_neg hw, HS2.out], _, rfl⟩
              case measure => simp [intOf]; omega
            · have hst : rowW rl ql bit sm (t + 1) = rowW rl ql bit sm t := by rw [rowW, if_neg heq]
              have HS2 := Lib.hid hst
              have hbe : (rl.getD t 0 == (bit : Int)) = false := by simpa using heq
              obtain ⟨x, hx⟩ : ∃ x, rl.getD t 0 = x := ⟨_, rfl⟩
              rw [hx] at c3 hbe
              clear hg3 hst hx heq
              go_wp2_with fail
              go_roundw
              case rel => exact ⟨t + 1, hlt2, by go_num, by rw [if_neg hw, HS2.out], _, rfl⟩
              case measure => simp [intOf]; omega
        · have htl : t = ln := by omega
          subst htl
          go_wp2_with fail
          go_roundw
          case rel => exact ⟨r + 1, hlt, by go_num, by rw [HST.out, HLN.out], _, rfl⟩
          case measure => simp [intOf]; omega
    · have hrn : r = nm := by omega
      subst hrn
      go_wp2_with fail
      go_ret
      exact ⟨rfl, _, rfl⟩

end Go.Proofs.Ytepdjehbgkfjhaa
