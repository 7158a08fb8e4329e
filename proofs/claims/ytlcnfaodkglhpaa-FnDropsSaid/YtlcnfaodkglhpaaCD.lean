/-
  Contracts: places of drops, and drops.
  Conditions: lengths at most 1048576.
-/
import Derived.Test.YtlcnfaodkglhpaaCB
import Derived.Test.YtlcnfaodkglhpaaH
import Derived.Test.YtlcnfaodkglhpaaPD
namespace Go.Proofs.Ytlcnfaodkglhpaa
open Go.RowKit

theorem mul_bd {a b x y : Int} (h1 : 0 ≤ a) (h2 : a ≤ x) (h3 : 0 ≤ b) (h4 : b ≤ y) : 0 ≤ a * b ∧ a * b ≤ x * y :=
  ⟨Int.mul_nonneg h1 h3, Int.mul_le_mul h2 h4 h3 (by omega)⟩


set_option maxRecDepth 100000 in
theorem impl_below_c (w : World) (s n : Int) (h0 : 0 ≤ s) (h1 : s < 4294967296) (h2 : 0 ≤ n) (h3 : n ≤ 1048576) :
    Calls Try.prog 95 #[.int .i64 s, .int .i64 n] w fun e w' => e = .returned (.tuple #[.int .i64 (drawB s n), .int .i64 (lcg s)]) ∧ w = w' := by
  have hb := lcg_bd s
  have hm := mul_bd hb.1 (show lcg s ≤ 4294967296 by omega) h2 h3
  have e1 : (1664525 * s + 1013904223) % 4294967296 = lcg s := rfl
  have e2 : lcg s * n / 4294967296 = drawB s n := rfl
  have E2 := Lib.hid e2
  clear e2
  obtain ⟨hb1, hb2⟩ := hb
  obtain ⟨hm1, hm2⟩ := hm
  go_enter Try.func95, Try.ntmps95
  go_wp2
  go_ret2
  exact ⟨by rw [E2.out]; rfl, rfl⟩


set_option maxRecDepth 100000 in
theorem spec_l07Draws_c (w : World) (p : Addr) (s n : Int) (hc : w.cell? p = some (.int .i64 s)) (hf : w.frozen? p = false) (h0 : 0 ≤ s) (h1 : s < 4294967296) (h2 : 0 ≤ n) (h3 : n ≤ 1048576) :
    Calls Try.prog 186 #[.pointer (some p), .int .i64 n] w fun e w' => e = .returned (.int .i64 (drawB s n)) ∧ w' = w.setCell p (.int .i64 (lcg s)) := by
  have hb := lcg_bd s
  have hm := mul_bd hb.1 (show lcg s ≤ 4294967296 by omega) h2 h3
  have e1 : (1664525 * s + 1013904223) % 4294967296 = lcg s := rfl
  have e2 : lcg s * n / 4294967296 = drawB s n := rfl
  have E2 := Lib.hid e2
  clear e2
  obtain ⟨hb1, hb2⟩ := hb
  obtain ⟨hm1, hm2⟩ := hm
  go_enter Try.func186, Try.ntmps186
  go_wp2
  go_ret
  exact ⟨by rw [E2.out]; rfl, rfl⟩


/-- the row of what is taken, as cells -/
theorem taken_cell {w : World} {base g n cap : Nat} {l : List Bool} (h : w.ownsRow base 4 1 (.slice (some ⟨g, 0, none⟩) n cap) n (l.map Value.bool)) {q : Nat} (hq : q < n) {b : Bool} (hb : l[q]? = some b) :
    w.cell? ⟨g, q, none⟩ = some (.bool b) := by
  rw [h.cellAt q (by omega)]
  simp [hb]

set_option maxRecDepth 100000 in
set_option maxHeartbeats 1000000 in
theorem impl_DropPlaces_go (w : World) (n : Nat) (s : Int) (hn1 : 1 ≤ n) (hn2 : n ≤ 32) (h0 : 0 ≤ s) (h1 : s < 4294967296) :
    Calls Try.prog 17 #[.int .i64 (n : Int), .int .i64 s] w fun e w' => ∃ v, e = .returned (.tuple #[v, .bool true]) ∧ Ow w' w.heap.size 2 v ((dropL n s).map (Value.int .i64)) ∧ Below w.heap.size w w' := by
  obtain ⟨i0, hi, hz0, hz1, hz2⟩ := info_parts infoBool
  obtain ⟨w1, hmk, hown, hgr⟩ := run_make_full (P := Try.prog) w w.heap.size 32 4 i0 (.bool false) 1 Try.underlying32 hi hz0 hz1 .i64 .i64 n (by rw [hz2]; omega) (by unfold maxLen; omega) (Nat.le_refl _)
  have hb1 : Below w.heap.size w w1 := (Below.refl _ _).grown hgr (Nat.le_refl _) (by simp)
  have hi1 := Lib.hid (inB_true.2 ⟨show (1 : Int) ≤ n by omega, show (n : Int) ≤ 32 by omega⟩)
  have hi2 := Lib.hid (inB_true.2 ⟨h0, show s ≤ 4294967295 by omega⟩)
  have hd := drawB_bd s n (by omega)
  have hl := lcg_bd s
  obtain ⟨hd1, hd2⟩ := hd
  obtain ⟨hl1, hl2⟩ := hl
  have hk := dropK_bd n s (by omega)
  obtain ⟨hk1, hk2⟩ := hk
  have eK : ((n : Int) + drawB s n) / (drawB s n + 1) = dropK n s := rfl
  obtain ⟨K, hK⟩ : ∃ K : Nat, dropK n s = K := ⟨(dropK n s).toNat, by omega⟩
  rw [hK] at eK hk1 hk2
  have HK := Lib.hid hK
  clear hK hgr
  go_enter Try.func17, Try.ntmps17
  go_wp2_with (first | (go_at_call 93; refine (impl_within_c _ _ _ _).mono ?_; rintro e w' ⟨rfl, rfl⟩; rw [hi1.out]) | (go_at_call 94; refine (impl_isSeed_c _ _).mono ?_; rintro e w' ⟨rfl, rfl⟩; rw [hi2.out]) | (go_at_call 95; refine (impl_below_c _ _ _ h0 h1 (by omega) (by omega)).mono ?_; rintro e w' ⟨rfl, rfl⟩))
  rw [eK]
  clear eK
  go_loopw [1, 36] (fun sd i wr => ∃ k : Nat, k ≤ K ∧ i = .int .i64 k ∧ sd = .int .i64 (dst n (lcg s) k).2 ∧ wr.ownsRow w.heap.size 4 1 (.slice (some ⟨w.heap.size, 0, none⟩) n n) n ((dst n (lcg s) k).1.map Value.bool) ∧ Below w.heap.size w wr) (fun _ i _ => K - (intOf i).toNat)
  case atStart =>
    refine ⟨0, Nat.zero_le _, rfl, rfl, ?_, hb1⟩
    simpa [Value.cells, toList_madeCells_one, dst] using hown
  case round =>
    clear hown hb1 hmk
    obtain ⟨k, hk, rfl, rfl, ho, hb⟩ := hrel
    obtain ⟨hs0, hs1⟩ := dst_seed n (lcg s) hl1 hl2 k
    have hlen := dst_len n (lcg s) k
    by_cases hlt : k < K
    · have hex := Lib.hid (dst_free n hn1 (lcg s) k (by omega))
      have hnext : dst n (lcg s) (k + 1) = ((dst n (lcg s) k).1.set (fwd (dst n (lcg s) k).1 (drawB (dst n (lcg s) k).2 n).toNat) true, lcg (dst n (lcg s) k).2) := rfl
      obtain ⟨⟨tk, sd⟩, htk⟩ : ∃ p, dst n (lcg s) k = p := ⟨_, rfl⟩
      rw [htk] at hs0 hs1 hlen hex hnext ho ⊢
      dsimp only at hs0 hs1 hlen hex hnext ho ⊢
      have HN := Lib.hid hnext
      clear hnext htk
      obtain ⟨hp1, hp2⟩ := drawB_bd sd n (by omega)
      obtain ⟨p, hp⟩ : ∃ p : Nat, drawB sd n = p := ⟨(drawB sd n).toNat, by omega⟩
      have HP := Lib.hid hp
      clear hp
      go_wp2_with (go_at_call 95; refine (impl_below_c _ _ _ hs0 hs1 (by omega) (by omega)).mono ?_; rintro e w' ⟨rfl, rfl⟩)
      rw [HP.out]
      have hpn : p < n := by have h1 := HP.out; omega
      clear hp1 hp2
      have hcells := fun (q : Nat) (hq : q < n) (b : Bool) (hb : tk[q]? = some b) => taken_cell ho hq hb
      have HC := Lib.hid hcells
      clear hcells
      go_loop [9] (fun t => ∃ q : Nat, q < n ∧ t = .int .i64 q ∧ fwd tk q = fwd tk p) (fun t => far tk (intOf t).toNat)
      case atStart => exact ⟨p, hpn, rfl, rfl⟩
      case round =>
        obtain ⟨q, hq, rfl, hfw⟩ := hrel
        have HF := Lib.hid hfw
        clear hfw
        cases hb1 : tk[q]'(by omega)
        · have hq1 : tk[q]? = some false := by rw [List.getElem?_eq_getElem (by omega), hb1]
          have hcq := HC.out q hq false hq1
          have hfz := ho.frozenAt q
          have hst := ho.stored q (.bool true)
          have HS := Lib.hid hst
          have HQ := Lib.hid hq1
          clear hb1 hq1 hst ho
          go_wp2
          go_roundw
          case rel =>
            refine ⟨k + 1, by omega, by go_num, ?_, ?_, hb.setCell (p := ⟨w.heap.size, q, none⟩) (Nat.le_refl _) _⟩
            · rw [HN.out]
            · rw [HN.out]
              dsimp only
              rw [HP.out, Int.toNat_natCast, ← HF.out, fwd_free tk q (by omega) HQ.out, List.map_set]
              exact HS.out.1
          case measure => simp [intOf]; omega
        · have hq1 : tk[q]? = some true := by rw [List.getElem?_eq_getElem (by omega), hb1]
          have hcq := HC.out q hq true hq1
          obtain ⟨hf1, hf2⟩ := fwd_taken tk q (by omega) hq1 hex.out
          rw [hlen] at hf1 hf2
          have HF1 := Lib.hid hf1
          have HF2 := Lib.hid hf2
          have hmod : (q + 1) % n < n := Nat.mod_lt _ (by omega)
          have HM := Lib.hid hmod
          clear hb1 hq1 hf1 hf2 hmod
          go_wp2
          go_round
          case rel => exact ⟨(q + 1) % n, HM.out, by go_num, by rw [HF1.out]; exact HF.out⟩
          case measure =>
            show far tk (((q : Int) + 1) % (n : Int)).toNat < far tk (q : Int).toNat
            rw [mod_succ_cast, Int.toNat_natCast]
            exact HF2.out
    · have : k = K := by omega
      subst this
      go_wp2
      obtain ⟨wo, rfl⟩ : ∃ wo : World, wo = wr := ⟨_, rfl⟩
      have hgs : w.heap.size < wo.heap.size := (ho.lt _ rfl).2
      have hres : dropL n s = trues (dst n (lcg s) k).1 n := by
        unfold dropL
        rw [HK.out, Int.toNat_natCast, Int.toNat_natCast]
      obtain ⟨tk, htk⟩ : ∃ t, (dst n (lcg s) k).1 = t := ⟨_, rfl⟩
      obtain ⟨sd, hsd⟩ : ∃ t, (dst n (lcg s) k).2 = t := ⟨_, rfl⟩
      rw [htk] at hres hlen ho
      rw [hsd]
      have HR := Lib.hid hres
      clear hres htk hsd
      have hcells := fun (q : Nat) (hq : q < n) (b : Bool) (hb : tk[q]? = some b) => taken_cell ho hq hb
      have HC := Lib.hid hcells
      clear hcells ho
      go_loopw [10, 59] (fun v i wr' => ∃ j : Nat, j ≤ n ∧ i = .int .i64 j ∧ Ow wr' wo.heap.size 2 v ((trues tk j).map (Value.int .i64)) ∧ Below wo.heap.size wo wr') (fun _ i _ => n - (intOf i).toNat)
      case atStart => exact ⟨0, Nat.zero_le _, rfl, own_empty _ _ _ (Nat.le_refl _), (Below.refl _ _).alloc (Nat.le_refl _) _⟩
      case round =>
        obtain ⟨j, hj, rfl, ho3, hb3⟩ := hrel
        have hz3 := hb3.size
        by_cases hlt : j < n
        · have hll : ((trues tk j).map (Value.int .i64)).length + 1 ≤ 1099511627776 := by
            have := trues_len tk j
            rw [List.length_map]; omega
          have hts := trues_succ tk j
          have hgd : tk.getD j false = tk[j]'(by omega) := by simp [List.getD, show j < tk.length by omega]
          have hcj : wr.cell? ⟨w.heap.size, j, none⟩ = some (.bool (tk[j]'(by omega))) := (hb3.cell (p := ⟨w.heap.size, j, none⟩) hgs).trans (HC.out j hlt _ (List.getElem?_eq_getElem (by omega)))
          cases hb1 : tk[j]'(by omega)
          · rw [hgd, hb1] at hts
            rw [hb1] at hcj
            have HT := Lib.hid hts
            clear hb1 hts hgd
            go_wp2
            go_roundw
            case rel =>
              refine ⟨j + 1, by omega, by go_num, ?_, hb3⟩
              rw [HT.out]
              simpa using ho3
            case measure => simp [intOf]; omega
          · rw [hgd, hb1] at hts
            rw [hb1] at hcj
            have HT := Lib.hid hts
            clear hb1 hts hgd
            go_wp2_with (at_builtin; refine app1 Try.underlying25 infoInt64 rfl (by decide) rfl _ _ rfl _ _ _ rfl (ho3.alloc _) _ _ _ rfl (cell_new1 _ _ _) rfl hll (by simp; omega) ?_; intro v' w5 ho5 hb5)
            go_roundw
            case rel =>
              refine ⟨j + 1, by omega, by go_num, ?_, (hb3.alloc hz3 _).trans hb5⟩
              rw [HT.out]
              simpa using ho5
            case measure => simp [intOf]; omega
        · have : j = n := by omega
          subst this
          go_wp2
          go_ret2
          refine ⟨_, rfl, ?_, hb.trans (hb3.mono (by omega))⟩
          rw [HR.out]
          exact own_base ho3 (by omega)


/-- a block of one number, somewhere at or beyond a base -/
theorem box_keep {w w' : World} {b : Nat} {v : Value} (h : w.cell? ⟨b, 0, none⟩ = some v ∧ w.frozen? ⟨b, 0, none⟩ = false) {B : Nat} (hb : Below B w w') (hB : b < B) : w'.cell? ⟨b, 0, none⟩ = some v ∧ w'.frozen? ⟨b, 0, none⟩ = false :=
  ⟨(hb.cell (p := ⟨b, 0, none⟩) hB).trans h.1, (hb.frozen (p := ⟨b, 0, none⟩) hB).trans h.2⟩

set_option maxRecDepth 100000 in
set_option maxHeartbeats 1000000 in
theorem spec_l07Drop_c (w : World) (n : Nat) (s : Int) (hn1 : 1 ≤ n) (hn2 : n ≤ 32) (h0 : 0 ≤ s) (h1 : s < 4294967296) :
    Calls Try.prog 98 #[.int .i64 (n : Int), .int .i64 s] w fun e w' => ∃ v, e = .returned v ∧ Ow w' w.heap.size 2 v ((dropL n s).map (Value.int .i64)) ∧ Below w.heap.size w w' := by
  have hmk := fun W : World => run_mk (P := Try.prog) Try.underlying32 infoBool rfl (by decide) n (by omega) .i64 .i64 W
  have hd := drawB_bd s n (by omega)
  have hl := lcg_bd s
  obtain ⟨hd1, hd2⟩ := hd
  obtain ⟨hl1, hl2⟩ := hl
  have hk := dropK_bd n s (by omega)
  obtain ⟨hk1, hk2⟩ := hk
  have hkl := fun k : Nat => dropK_lt n s k (by omega)
  obtain ⟨K, hK⟩ : ∃ K : Nat, dropK n s = K := ⟨(dropK n s).toNat, by omega⟩
  rw [hK] at hk1 hk2 hkl
  have HK := Lib.hid hK
  have HL := Lib.hid hkl
  clear hK hkl
  go_enter Try.func98, Try.ntmps98
  go_wp2_with fail
  refine (spec_l07Draws_c _ _ s n (by simp) (by simp) h0 h1 (by omega) (by omega)).mono ?_
  rintro e w1 ⟨rfl, hw1⟩
  have hbx : w1.cell? ⟨w.heap.size, 0, none⟩ = some (.int .i64 (lcg s)) ∧ w1.frozen? ⟨w.heap.size, 0, none⟩ = false := by
    rw [hw1]
    exact ⟨cell_set_same _ _ _ _ (cell_new1 _ _ _), by rw [frozen_set]; simp⟩
  have hb1 : Below w.heap.size w w1 := by
    rw [hw1]
    exact ((Below.refl _ _).alloc (Nat.le_refl _) _).setCell (p := ⟨w.heap.size, 0, none⟩) (Nat.le_refl _) _
  have hz1 : w.heap.size < w1.heap.size := by
    rw [hw1]
    simp
  clear hw1
  go_wp2
  go_loop [6] (fun t => ∃ k : Nat, 1 ≤ k ∧ k ≤ K ∧ t = .int .i64 k) (fun t => K - (intOf t).toNat)
  case atStart => exact ⟨1, Nat.le_refl _, by omega, rfl⟩
  case round =>
    obtain ⟨k, hk3, hk4, rfl⟩ := hrel
    have hm := mul_bd (show (0 : Int) ≤ k by omega) (show (k : Int) ≤ 32 by omega) (show 0 ≤ drawB s n + 1 by omega) (show drawB s n + 1 ≤ 33 by omega)
    obtain ⟨hm1, hm2⟩ := hm
    by_cases hlt : k < K
    · have ht := (HL.out k).2 (by omega)
      go_wp2
      go_round
      case rel => exact ⟨k + 1, by omega, by omega, by go_num⟩
      case measure => simp [intOf]; omega
    · have : k = K := by omega
      subst this
      have ht : ¬ (k : Int) * (drawB s n + 1) < n := fun h => by have := (HL.out k).1 h; omega
      go_wp2
      have ho1 := own_mk w1 w1.heap.size 4 (.bool false) n (Nat.le_refl _) (by omega)
      have hbx1 := box_keep hbx ((Below.refl w1.heap.size w1).alloc (Nat.le_refl _) (.cells (zeroRow (.bool false) n) 4)) hz1
      have hb2 := hb1.alloc (by omega) (.cells (zeroRow (.bool false) n) 4)
      clear hmk ht hm1 hm2 hb1 hbx
      go_loopw [6] (fun t wr => ∃ j : Nat, j ≤ k ∧ t = .int .i64 ((k : Int) - (j : Int)) ∧ wr.ownsRow w1.heap.size 4 1 (.slice (some ⟨w1.heap.size, 0, none⟩) n n) n ((dst n (lcg s) j).1.map Value.bool) ∧ (wr.cell? ⟨w.heap.size, 0, none⟩ = some (.int .i64 (dst n (lcg s) j).2) ∧ wr.frozen? ⟨w.heap.size, 0, none⟩ = false) ∧ Below w.heap.size w wr) (fun t _ => (intOf t).toNat)
      case atStart =>
        refine ⟨0, Nat.zero_le _, by simp, ?_, hbx1, hb2⟩
        simpa [dst] using ho1
      case round =>
        clear ho1 hbx1 hb2
        obtain ⟨j, hj, rfl, ho, hbx, hb⟩ := hrel
        obtain ⟨hs0, hs1⟩ := dst_seed n (lcg s) hl1 hl2 j
        have hlen := dst_len n (lcg s) j
        have hgw : w1.heap.size < wr.heap.size := (ho.lt _ rfl).2
        by_cases hlt : j < k
        · have hex := Lib.hid (dst_free n hn1 (lcg s) j (by omega))
          have hnext : dst n (lcg s) (j + 1) = ((dst n (lcg s) j).1.set (fwd (dst n (lcg s) j).1 (drawB (dst n (lcg s) j).2 n).toNat) true, lcg (dst n (lcg s) j).2) := rfl
          obtain ⟨⟨tk, sd⟩, htk⟩ : ∃ p, dst n (lcg s) j = p := ⟨_, rfl⟩
          rw [htk] at hs0 hs1 hlen hex hnext ho hbx
          dsimp only at hs0 hs1 hlen hex hnext ho hbx
          have HN := Lib.hid hnext
          clear hnext htk
          obtain ⟨hp1, hp2⟩ := drawB_bd sd n (by omega)
          obtain ⟨p, hp⟩ : ∃ p : Nat, drawB sd n = p := ⟨(drawB sd n).toNat, by omega⟩
          have HP := Lib.hid hp
          clear hp
          go_wp2_with fail
          refine (spec_l07Draws_c _ _ sd n hbx.1 hbx.2 hs0 hs1 (by omega) (by omega)).mono ?_
          rintro e w2 ⟨rfl, hw2⟩
          have hbx2 : w2.cell? ⟨w.heap.size, 0, none⟩ = some (.int .i64 (lcg sd)) ∧ w2.frozen? ⟨w.heap.size, 0, none⟩ = false := by
            rw [hw2]
            exact ⟨cell_set_same _ _ _ _ hbx.1, by rw [frozen_set]; exact hbx.2⟩
          have ho2 : w2.ownsRow w1.heap.size 4 1 (.slice (some ⟨w1.heap.size, 0, none⟩) n n) n (tk.map Value.bool) := by
            rw [hw2]
            exact ownsRow_setCell_below ho hz1 _
          have hb2 : Below w.heap.size w w2 := by
            rw [hw2]
            exact hb.setCell (p := ⟨w.heap.size, 0, none⟩) (Nat.le_refl _) _
          clear hw2 hbx ho hb hgw
          rw [HP.out]
          have hpn : p < n := by have h1 := HP.out; omega
          clear hp1 hp2
          have hcells := fun (q : Nat) (hq : q < n) (b : Bool) (hb : tk[q]? = some b) => taken_cell ho2 hq hb
          have HC := Lib.hid hcells
          clear hcells
          have HB := Lib.hid hbx2
          clear hbx2
          go_wp2
          go_loop [8] (fun t => ∃ q : Nat, q < n ∧ t = .int .i64 q ∧ fwd tk q = fwd tk p) (fun t => far tk (intOf t).toNat)
          case atStart => exact ⟨p, hpn, rfl, rfl⟩
          case round =>
            obtain ⟨q, hq, rfl, hfw⟩ := hrel
            have HF := Lib.hid hfw
            clear hfw
            cases hb1 : tk[q]'(by omega)
            · have hq1 : tk[q]? = some false := by rw [List.getElem?_eq_getElem (by omega), hb1]
              have hcq := HC.out q hq false hq1
              have hfz := ho2.frozenAt q
              have hst := ho2.stored q (.bool true)
              have HS := Lib.hid hst
              have HQ := Lib.hid hq1
              clear hb1 hq1 hst ho2
              go_wp2
              go_roundw
              case rel =>
                refine ⟨j + 1, by omega, ?_, ?_, ?_, hb2.setCell (p := ⟨w1.heap.size, q, none⟩) (Nat.le_of_lt hz1) _⟩
                · congr 1; omega
                · rw [HN.out]
                  dsimp only
                  rw [HP.out, Int.toNat_natCast, ← HF.out, fwd_free tk q (by omega) HQ.out, List.map_set]
                  exact HS.out.1
                · rw [HN.out]
                  have hg := HS.out.2
                  refine ⟨hg.cell HB.out.1 (by simp; omega), ?_⟩
                  rw [frozen_set]
                  exact HB.out.2
              case measure => simp [intOf]; omega
            · have hq1 : tk[q]? = some true := by rw [List.getElem?_eq_getElem (by omega), hb1]
              have hcq := HC.out q hq true hq1
              obtain ⟨hf1, hf2⟩ := fwd_taken tk q (by omega) hq1 hex.out
              rw [hlen] at hf1 hf2
              have HF1 := Lib.hid hf1
              have HF2 := Lib.hid hf2
              have hmod : (q + 1) % n < n := Nat.mod_lt _ (by omega)
              have HM := Lib.hid hmod
              clear hb1 hq1 hf1 hf2 hmod
              go_wp2
              go_round
              case rel => exact ⟨(q + 1) % n, HM.out, by go_num, by rw [HF1.out]; exact HF.out⟩
              case measure =>
                show far tk (((q : Int) + 1) % (n : Int)).toNat < far tk (q : Int).toNat
                rw [mod_succ_cast, Int.toNat_natCast]
                exact HF2.out
        · have : j = k := by omega
          subst this
          rw [Int.sub_self]
          go_wp2
          obtain ⟨wo, rfl⟩ : ∃ wo : World, wo = wr := ⟨_, rfl⟩
          have hres : dropL n s = trues (dst n (lcg s) j).1 n := by
            unfold dropL
            rw [HK.out, Int.toNat_natCast, Int.toNat_natCast]
          obtain ⟨tk, htk⟩ : ∃ t, (dst n (lcg s) j).1 = t := ⟨_, rfl⟩
          rw [htk] at hres hlen ho
          have HR := Lib.hid hres
          clear hres htk hbx hs0 hs1
          have hcells := fun (q : Nat) (hq : q < n) (b : Bool) (hb : tk[q]? = some b) => taken_cell ho hq hb
          have HC := Lib.hid hcells
          clear hcells ho
          go_loopw [9, 43] (fun v i wr' => ∃ j : Nat, j ≤ n ∧ i = .int .i64 j ∧ Ow wr' wo.heap.size 2 v ((trues tk j).map (Value.int .i64)) ∧ Below wo.heap.size wo wr') (fun _ i _ => n - (intOf i).toNat)
          case atStart => exact ⟨0, Nat.zero_le _, rfl, own_empty _ _ _ (Nat.le_refl _), (Below.refl _ _).alloc (Nat.le_refl _) _⟩
          case round =>
            obtain ⟨j, hj, rfl, ho3, hb3⟩ := hrel
            have hz3 := hb3.size
            by_cases hlt : j < n
            · have hll : ((trues tk j).map (Value.int .i64)).length + 1 ≤ 1099511627776 := by
                have := trues_len tk j
                rw [List.length_map]; omega
              have hts := trues_succ tk j
              have hgd : tk.getD j false = tk[j]'(by omega) := by simp [List.getD, show j < tk.length by omega]
              have hcj : wr.cell? ⟨w1.heap.size, j, none⟩ = some (.bool (tk[j]'(by omega))) := (hb3.cell (p := ⟨w1.heap.size, j, none⟩) hgw).trans (HC.out j hlt _ (List.getElem?_eq_getElem (by omega)))
              cases hb1 : tk[j]'(by omega)
              · rw [hgd, hb1] at hts
                rw [hb1] at hcj
                have HT := Lib.hid hts
                clear hb1 hts hgd
                go_wp2
                go_roundw
                case rel =>
                  refine ⟨j + 1, by omega, by go_num, ?_, hb3⟩
                  rw [HT.out]
                  simpa using ho3
                case measure => simp [intOf]; omega
              · rw [hgd, hb1] at hts
                rw [hb1] at hcj
                have HT := Lib.hid hts
                clear hb1 hts hgd
                go_wp2_with (at_builtin; refine app1 Try.underlying25 infoInt64 rfl (by decide) rfl _ _ rfl _ _ _ rfl (ho3.alloc _) _ _ _ rfl (cell_new1 _ _ _) rfl hll (by simp; omega) ?_; intro v' w5 ho5 hb5)
                go_roundw
                case rel =>
                  refine ⟨j + 1, by omega, by go_num, ?_, (hb3.alloc hz3 _).trans hb5⟩
                  rw [HT.out]
                  simpa using ho5
                case measure => simp [intOf]; omega
            · have : j = n := by omega
              subst this
              go_wp2
              go_ret
              refine ⟨_, rfl, ?_, hb.trans (hb3.mono (by omega))⟩
              rw [HR.out]
              exact own_base ho3 (by omega)


def dropOk (n s : Int) : Bool := inB n 1 32 && inB s 0 4294967295
def dropPlacesL (n s : Int) : List Int := if dropOk n s then dropL n s else []
theorem dropPlacesL_len (n s : Int) : (dropPlacesL n s).length ≤ 32 := by
  unfold dropPlacesL
  split
  · rename_i h
    unfold dropOk at h
    rw [Bool.and_eq_true, inB_true] at h
    have := dropL_len n s
    omega
  · exact Nat.zero_le _


set_option maxRecDepth 100000 in
theorem impl_DropPlaces_c (w : World) (n s : Int) :
    Calls Try.prog 17 #[.int .i64 n, .int .i64 s] w fun e w' => ∃ v, e = .returned (.tuple #[v, .bool (dropOk n s)]) ∧ Ow w' w.heap.size 2 v ((dropPlacesL n s).map (Value.int .i64)) ∧ Below w.heap.size w w' := by
  cases h : dropOk n s
  · have e2 : dropPlacesL n s = [] := by simp [dropPlacesL, h]
    rw [e2]
    clear e2
    unfold dropOk at h
    cases h1 : inB n 1 32
    · have H1 := Lib.hid h1
      clear h h1
      go_enter Try.func17, Try.ntmps17
      go_wp2_with (first | (go_at_call 93; refine (impl_within_c _ _ _ _).mono ?_; rintro e w' ⟨rfl, rfl⟩; rw [H1.out]))
      go_ret2
      exact ⟨_, rfl, World.ownsRow_nil _ _ _ _, Below.refl _ _⟩
    · have H1 := Lib.hid h1
      have h2 : inB s 0 4294967295 = false := by rw [h1] at h; simpa using h
      have H2 := Lib.hid h2
      clear h h1 h2
      go_enter Try.func17, Try.ntmps17
      go_wp2_with (first | (go_at_call 93; refine (impl_within_c _ _ _ _).mono ?_; rintro e w' ⟨rfl, rfl⟩; rw [H1.out]) | (go_at_call 94; refine (impl_isSeed_c _ _).mono ?_; rintro e w' ⟨rfl, rfl⟩; rw [H2.out]))
      go_ret2
      exact ⟨_, rfl, World.ownsRow_nil _ _ _ _, Below.refl _ _⟩
  · have e2 : dropPlacesL n s = dropL n s := by simp [dropPlacesL, h]
    rw [e2]
    unfold dropOk at h
    rw [Bool.and_eq_true, inB_true, inB_true] at h
    obtain ⟨m, rfl⟩ : ∃ m : Nat, n = m := ⟨n.toNat, by omega⟩
    exact impl_DropPlaces_go w m s (by omega) (by omega) (by omega) (by omega)


set_option maxRecDepth 100000 in
theorem spec_DropPlaces_c (w : World) (n s : Int) :
    Calls Try.prog 18 #[.int .i64 n, .int .i64 s] w fun e w' => ∃ v, e = .returned (.tuple #[v, .bool (dropOk n s)]) ∧ Ow w' w.heap.size 2 v ((dropPlacesL n s).map (Value.int .i64)) ∧ Below w.heap.size w w' := by
  cases h : dropOk n s
  · have e2 : dropPlacesL n s = [] := by simp [dropPlacesL, h]
    rw [e2]
    clear e2
    unfold dropOk at h
    cases h1 : inB n 1 32
    · have H1 := Lib.hid h1
      clear h h1
      go_enter Try.func18, Try.ntmps18
      go_wp2_with (first | (go_at_call 96; refine (spec_l00In_c _ _ _ _).mono ?_; rintro e w' ⟨rfl, rfl⟩; rw [H1.out]))
      go_ret2
      exact ⟨_, rfl, World.ownsRow_nil _ _ _ _, Below.refl _ _⟩
    · have H1 := Lib.hid h1
      have h2 : inB s 0 4294967295 = false := by rw [h1] at h; simpa using h
      have H2 := Lib.hid h2
      clear h h1 h2
      go_enter Try.func18, Try.ntmps18
      go_wp2_with (first | (go_at_call 96; refine (spec_l00In_c _ _ _ _).mono ?_; rintro e w' ⟨rfl, rfl⟩; rw [H1.out]) | (go_at_call 97; refine (spec_l07Seed_c _ _).mono ?_; rintro e w' ⟨rfl, rfl⟩; rw [H2.out]))
      go_ret2
      exact ⟨_, rfl, World.ownsRow_nil _ _ _ _, Below.refl _ _⟩
  · have e2 : dropPlacesL n s = dropL n s := by simp [dropPlacesL, h]
    rw [e2]
    clear e2
    unfold dropOk at h
    rw [Bool.and_eq_true] at h
    obtain ⟨h1, h2⟩ := h
    have H1 := Lib.hid h1
    have H2 := Lib.hid h2
    rw [inB_true] at h1 h2
    obtain ⟨m, rfl⟩ : ∃ m : Nat, n = m := ⟨n.toNat, by omega⟩
    obtain ⟨h3, h4⟩ := h1
    obtain ⟨h5, h6⟩ := h2
    go_enter Try.func18, Try.ntmps18
    go_wp2_with (first | (go_at_call 96; refine (spec_l00In_c _ _ _ _).mono ?_; rintro e w' ⟨rfl, rfl⟩; rw [H1.out]) | (go_at_call 97; refine (spec_l07Seed_c _ _).mono ?_; rintro e w' ⟨rfl, rfl⟩; rw [H2.out]) | (go_at_call 98; refine (spec_l07Drop_c _ m s (by omega) (by omega) (by omega) (by omega)).mono ?_; rintro e w' ⟨v, rfl, ho, hb⟩))
    go_ret2
    exact ⟨_, rfl, ho, hb⟩


def xorAll (blocks places : List Int) (k : Nat) : Int := (places.take k).foldl (fun a p => bits .xor .i64 a (blocks.getD p.toNat 0)) 0
theorem xorAll_succ (blocks places : List Int) (k : Nat) (hk : k < places.length) : xorAll blocks places (k + 1) = bits .xor .i64 (xorAll blocks places k) (blocks.getD (places[k]).toNat 0) := by
  unfold xorAll
  rw [List.take_succ_eq_append_getElem hk, List.foldl_append]
  rfl
def dropOfOk (blocks : List Int) (s : Int) : Bool := dropOk blocks.length s && blocks.all fun x => inB x 0 255
def dropOfV (blocks : List Int) (s : Int) : Int := if dropOfOk blocks s then xorAll blocks (dropL blocks.length s) (dropL blocks.length s).length else 0

set_option maxRecDepth 100000 in
set_option maxHeartbeats 1000000 in
theorem impl_DropOf_c (w : World) (A : Option Addr) (n cap : Nat) (xs : List Int) (hl : xs.length = n) (hn : n ≤ 1048576) (hx : Sl w w.heap.size A (xs.map (Value.int .i64))) (s : Int) :
    Calls Try.prog 19 #[.slice A n cap, .int .i64 s] w fun e w' => e = .returned (.tuple #[.int .i64 (dropOfV xs s), .bool (dropOfOk xs s)]) ∧ Below w.heap.size w w' := by
  cases h : dropOfOk xs s
  · have e2 : dropOfV xs s = 0 := by simp [dropOfV, h]
    rw [e2]
    clear e2
    unfold dropOfOk at h
    rw [hl] at h
    cases h1 : dropOk n s
    · have H1 := Lib.hid h1
      clear h h1
      go_enter Try.func19, Try.ntmps19
      go_wp2_with (first | (go_at_call 17; refine (impl_DropPlaces_c _ _ _).mono ?_; rintro e w' ⟨v, rfl, ho, hb⟩; rw [H1.out]))
      go_ret2
      exact ⟨rfl, hb⟩
    · have H1 := Lib.hid h1
      have h2 : (xs.all fun x => inB x 0 255) = false := by rw [h1] at h; simpa using h
      have H2 := Lib.hid h2
      clear h h1 h2
      go_enter Try.func19, Try.ntmps19
      go_wp2_with fail
      refine (impl_DropPlaces_c _ _ _).mono ?_
      rintro e w' ⟨v, rfl, ho, hb⟩
      rw [H1.out]
      go_wp2_with fail
      refine (impl_areBytes_c _ _ A n cap xs hl (by omega) (hx.below hb)).mono ?_
      rintro e w2 ⟨rfl, m, rfl⟩
      rw [H2.out]
      go_wp2
      go_ret2
      exact ⟨rfl, below_drewN hb _⟩
  · have e2 : dropOfV xs s = xorAll xs (dropL n s) (dropL n s).length := by simp [dropOfV, h, hl]
    unfold dropOfOk at h
    rw [hl, Bool.and_eq_true] at h
    obtain ⟨h1, h2⟩ := h
    have eL : dropPlacesL n s = dropL n s := by simp [dropPlacesL, h1]
    have H1 := Lib.hid h1
    have H2 := Lib.hid h2
    have hn1 : 1 ≤ n ∧ n ≤ 32 := by
      unfold dropOk at h1
      rw [Bool.and_eq_true, inB_true] at h1
      omega
    have hm := Lib.hid (dropL_mem n s (by omega))
    have hpl := dropL_len n s
    rw [Int.toNat_natCast] at hpl
    obtain ⟨P, hP⟩ : ∃ P, dropL n s = P := ⟨_, rfl⟩
    rw [hP] at eL hm hpl e2
    rw [e2]
    have EL := Lib.hid eL
    clear h1 h2 eL e2 hP
    go_enter Try.func19, Try.ntmps19
    go_wp2_with fail
    refine (impl_DropPlaces_c _ _ _).mono ?_
    rintro e w1 ⟨v, rfl, ho, hb⟩
    rw [H1.out]
    rw [EL.out] at ho
    obtain ⟨A1, c1, rfl, hp⟩ := ho.opn
    have hs1 := sl_of_own hp
    have hx1 := hx.below hb
    clear ho hp hx
    go_wp2_with fail
    refine (impl_areBytes_c _ _ A n cap xs hl (by omega) hx1).mono ?_
    rintro e w2 ⟨rfl, m, rfl⟩
    rw [H2.out]
    go_wp2
    go_loop [8, 27] (fun t i => ∃ k : Nat, k ≤ P.length ∧ i = .int .i64 k ∧ t = .int .i64 (xorAll xs P k)) (fun _ i => P.length - (intOf i).toNat)
    case atStart => exact ⟨0, Nat.zero_le _, rfl, rfl⟩
    case round =>
      obtain ⟨k, hk, rfl, rfl⟩ := hrel
      by_cases hlt : k < P.length
      · have hst := xorAll_succ xs P k hlt
        obtain ⟨b, off, rfl, hbb, hc1⟩ := hs1.get k hlt
        obtain ⟨q, hq⟩ : ∃ q : Nat, P[k]'hlt = q := ⟨(P[k]'hlt).toNat, by have := hm.out _ (List.getElem_mem hlt); omega⟩
        have hqn : q < n := by have h5 := hm.out _ (List.getElem_mem hlt); rw [hq] at h5; omega
        rw [hq] at hc1 hst
        obtain ⟨b', off', rfl, hbb', hc2⟩ := hx1.get q (by omega)
        have hg : xs.getD q 0 = xs[q]'(by omega) := by simp [List.getD, show q < xs.length by omega]
        rw [Int.toNat_natCast, hg] at hst
        have HS := Lib.hid hst
        clear hst hq hg hs1 hx1
        go_wp2
        go_round
        case rel => exact ⟨k + 1, by omega, by go_num, by rw [HS.out]⟩
        case measure => simp [intOf]; omega
      · have : k = P.length := by omega
        subst this
        go_wp2
        go_ret2
        exact ⟨rfl, below_drewN hb _⟩

end Go.Proofs.Ytlcnfaodkglhpaa
