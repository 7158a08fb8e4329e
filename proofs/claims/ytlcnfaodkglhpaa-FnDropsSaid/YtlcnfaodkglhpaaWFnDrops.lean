/-
  FnDrops returns true for every input, and leaves its arguments as they were.
  Conditions: none beyond the given statement's own.
-/
import Derived.Test.YtlcnfaodkglhpaaDB
import Derived.Test.YtlcnfaodkglhpaaDQ
namespace Go.Proofs.Ytlcnfaodkglhpaa
open Go.RowKit

def blkL (c : List Int) (k : Nat) : List Int := (List.range k).map fun i : Nat => atB c i 256
def sdV (c m : List Int) (i : Int) : Int := 1000 * atB c i 256 + atB m i 256
def sdL (c m : List Int) (k : Nat) : List Int := (List.range k).map fun i : Nat => sdV c m i
def drL (c m bl : List Int) (k : Nat) : List Int := (List.range k).map fun i : Nat => dropOfV bl (sdV c m i)
theorem blkL_succ (c : List Int) (k : Nat) : blkL c (k + 1) = blkL c k ++ [atB c k 256] := by simp [blkL, List.range_succ]
theorem sdL_succ (c m : List Int) (k : Nat) : sdL c m (k + 1) = sdL c m k ++ [sdV c m k] := by simp [sdL, List.range_succ]
theorem drL_succ (c m bl : List Int) (k : Nat) : drL c m bl (k + 1) = drL c m bl k ++ [dropOfV bl (sdV c m k)] := by simp [drL, List.range_succ]
theorem blkL_len (c : List Int) (k : Nat) : (blkL c k).length = k := by simp [blkL]
theorem sdL_len (c m : List Int) (k : Nat) : (sdL c m k).length = k := by simp [sdL]
theorem drL_len (c m bl : List Int) (k : Nat) : (drL c m bl k).length = k := by simp [drL]
theorem sdV_bd (c m : List Int) (i : Int) : 0 ≤ sdV c m i ∧ sdV c m i ≤ 255255 := by
  have h1 := atB_bd c i 256 (by decide)
  have h2 := atB_bd m i 256 (by decide)
  unfold sdV
  omega
theorem blkL_by (c : List Int) (k : Nat) : By (blkL c k) := fun i => by
  by_cases h : i < k
  · have h1 := atB_bd c i 256 (by decide)
    simp [blkL, List.getD, h]
    omega
  · simp [blkL, List.getD, h]
theorem blkL_bytes (c : List Int) (k : Nat) : (blkL c k).all (fun x => inB x 0 255) = true := by
  rw [List.all_eq_true]
  intro x hx
  obtain ⟨i, _, rfl⟩ := List.mem_map.1 hx
  have h1 := atB_bd c i 256 (by decide)
  exact inB_true.2 (by omega)
theorem dropOk_at {n : Nat} {c m : List Int} {i : Int} (h1 : 1 ≤ n) (h2 : n ≤ 32) : dropOk n (sdV c m i) = true := by
  have := sdV_bd c m i
  unfold dropOk
  rw [Bool.and_eq_true]
  exact ⟨inB_true.2 (by omega), inB_true.2 (by omega)⟩
theorem dropOfOk_at {n : Nat} {c m : List Int} {i : Int} (h1 : 1 ≤ n) (h2 : n ≤ 32) : dropOfOk (blkL c n) (sdV c m i) = true := by
  unfold dropOfOk
  rw [blkL_len, dropOk_at h1 h2, blkL_bytes]
  rfl
theorem dropOfV_at {n : Nat} {c m : List Int} {i : Int} (h1 : 1 ≤ n) (h2 : n ≤ 32) : dropOfV (blkL c n) (sdV c m i) = xorAll (blkL c n) (dropL n (sdV c m i)) (dropL n (sdV c m i)).length := by
  unfold dropOfV
  rw [if_pos (dropOfOk_at h1 h2), blkL_len]
theorem dropPlacesL_at {n : Nat} {c m : List Int} {i : Int} (h1 : 1 ≤ n) (h2 : n ≤ 32) : dropPlacesL n (sdV c m i) = dropL n (sdV c m i) := by
  unfold dropPlacesL
  rw [if_pos (dropOk_at h1 h2)]
theorem peel_at {n K : Nat} {c m : List Int} (h1 : 1 ≤ n) (h2 : n ≤ 32) (h : peelOk n (sdL c m K) (drL c m (blkL c n) K) = true) : peelL n (sdL c m K) (drL c m (blkL c n) K) = blkL c n := by
  refine peel_right (by rw [blkL_len]; rfl) (blkL_by c n) (by rw [sdL_len, drL_len]) (fun i hi => ?_) h
  rw [drL_len] at hi
  have e1 : (drL c m (blkL c n) K).getD i 0 = dropOfV (blkL c n) (sdV c m i) := by simp [drL, List.getD, hi]
  have e2 : (sdL c m K).getD i 0 = sdV c m i := by simp [sdL, List.getD, hi]
  rw [e1, e2, dropOfV_at h1 h2]

set_option maxRecDepth 100000 in
set_option maxHeartbeats 4000000 in
theorem law_FnDrops (w : World) (A1 : Option Addr) (n1 cap1 : Nat) (c : List Int) (A2 : Option Addr) (n2 cap2 : Nat) (m : List Int) (hl1 : c.length = n1) (hm1 : n1 ≤ maxLen) (hb1 : ∀ x ∈ c, 0 ≤ x ∧ x ≤ 255) (hx1 : Sl w w.heap.size A1 (c.map (Value.int .u8)))
    (hl2 : m.length = n2) (hm2 : n2 ≤ maxLen) (hb2 : ∀ x ∈ m, 0 ≤ x ∧ x ≤ 255) (hx2 : Sl w w.heap.size A2 (m.map (Value.int .u8))) :
    Calls Try.prog 3 #[.slice A1 n1 cap1, .slice A2 n2 cap2] w fun e w' => e = .returned (.bool true) ∧ Below w.heap.size w w' := by
  by_cases hlong : 1048576 < n1 ∨ 1048576 < n2
  · go_enter Try.func3, Try.ntmps3
    go_wp2_with (go_at_call 15; refine (b10Long_c _ _ _ _ _ _ _ true (by simp; omega) hm1 hm2).mono ?_; rintro e w' ⟨rfl, rfl⟩)
    go_ret
    exact ⟨rfl, Below.refl _ _⟩
  have hn1 : n1 ≤ 1048576 := by omega
  have hn2 : n2 ≤ 1048576 := by omega
  have hfl : false = (decide (1048576 < n1) || decide (1048576 < n2)) := by rw [decide_eq_false (by omega), decide_eq_false (by omega)]; rfl
  have HFL := Lib.hid hfl
  clear hfl hlong
  have hA := atB_bd m 0 10 (by decide)
  obtain ⟨hA1, hA2⟩ := hA
  obtain ⟨N, hN⟩ : ∃ N : Nat, 1 + atB m 0 10 = (N : Int) := ⟨(1 + atB m 0 10).toNat, by omega⟩
  have hN1 : 1 ≤ N := by omega
  have hN2 : N ≤ 10 := by omega
  have HN := Lib.hid hN
  clear hN
  have hat := fun (W : World) (hb : Below w.heap.size w W) (i q : Int) (g0 : 0 ≤ i) (g1 : i ≤ 1048576) (g2 : 1 ≤ q) (g3 : q ≤ 1048576) => b10At_c W w.heap.size A1 n1 cap1 c hl1 hb1 (hx1.below hb) i q g0 g1 g2 g3
  have hat2 := fun (W : World) (hb : Below w.heap.size w W) (i q : Int) (g0 : 0 ≤ i) (g1 : i ≤ 1048576) (g2 : 1 ≤ q) (g3 : q ≤ 1048576) => b10At_c W w.heap.size A2 n2 cap2 m hl2 hb2 (hx2.below hb) i q g0 g1 g2 g3
  have HA1 := Lib.hid hat
  have HA2 := Lib.hid hat2
  clear hat hat2 hx1 hx2 hb1 hb2
  go_enter Try.func3, Try.ntmps3
  go_wp2_with (first
    | (go_at_call 15; refine (b10Long_c _ _ _ _ _ _ _ false HFL.out hm1 hm2).mono ?_; rintro e w' ⟨rfl, rfl⟩)
    | (go_at_call 16; refine (HA2.out _ (Below.refl _ _) 0 10 (by decide) (by decide) (by decide) (by decide)).mono ?_; rintro e w' ⟨rfl, rfl⟩))
  rw [HN.out]
  go_loopw [6, 7] (fun v i wr => ∃ k : Nat, k ≤ N ∧ i = .int .i64 k ∧ Ow wr w.heap.size 2 v ((blkL c k).map (Value.int .i64)) ∧ Below w.heap.size w wr) (fun _ i _ => N - (intOf i).toNat)
  case atStart => exact ⟨0, Nat.zero_le _, rfl, own_empty _ _ _ (Nat.le_refl _), (Below.refl _ _).alloc (Nat.le_refl _) _⟩
  case round =>
    obtain ⟨k, hk, rfl, ho, hb⟩ := hrel
    have hz := hb.size
    by_cases hlt : k < N
    · have hst := blkL_succ c k
      have hlen : ((blkL c k).map (Value.int .i64)).length + 1 ≤ 1099511627776 := by rw [List.length_map, blkL_len]; omega
      have HT := Lib.hid hst
      clear hst
      go_wp2_with (first
        | (go_at_call 16; refine (HA1.out _ hb (k : Int) 256 (by omega) (by omega) (by decide) (by decide)).mono ?_; rintro e w' ⟨rfl, rfl⟩)
        | (at_builtin; refine app1 Try.underlying25 infoInt64 rfl (by decide) rfl _ _ rfl _ _ _ rfl (ho.alloc _) _ _ _ rfl (cell_new1 _ _ _) rfl hlen (by simp; omega) ?_; intro v' w1 ho1 hb1))
      go_roundw
      case rel =>
        refine ⟨k + 1, by omega, by go_num, ?_, (hb.alloc hz _).trans hb1⟩
        rw [HT.out, List.map_append]
        exact ho1
      case measure => simp [intOf]; omega
    · have : k = N := by omega
      subst this
      obtain ⟨w1, rfl⟩ : ∃ w1 : World, w1 = wr := ⟨_, rfl⟩
      obtain ⟨S6, c6, rfl, hbk⟩ := ho.opn
      clear hk ho
      rw [blkL_len] at hbk ⊢
      have hA3 := atB_bd m 1 20 (by decide)
      obtain ⟨hA3, hA4⟩ := hA3
      obtain ⟨K, hK⟩ : ∃ K : Nat, (k : Int) + atB m 1 20 = (K : Int) := ⟨((k : Int) + atB m 1 20).toNat, by omega⟩
      have hK2 : K ≤ 29 := by omega
      have HK := Lib.hid hK
      have HAT := Lib.hid hA3
      clear hK
      go_wp2
      go_loopw [8, 9, 10] (fun v u i wr => ∃ j : Nat, j ≤ K ∧ i = .int .i64 j ∧ Ow wr w1.heap.size 2 v ((sdL c m j).map (Value.int .i64)) ∧ Ow wr w1.heap.size 2 u ((drL c m (blkL c k) j).map (Value.int .i64)) ∧ Ap v u ∧ Below w1.heap.size w1 wr) (fun _ _ i _ => K - (intOf i).toNat)
      case atStart =>
        refine ⟨0, Nat.zero_le _, rfl, (own_empty _ _ _ (Nat.le_refl _)).alloc _, ?_, ?_, ((Below.refl _ _).alloc (Nat.le_refl _) _).alloc (by simp) _⟩
        · have h1 := own_empty (w1.alloc (.cells #[] 2)) w1.heap.size 2 (by simp)
          simpa [drL] using h1
        · intro g h1 h2
          simp [Value.ownBlock] at h1 h2
          omega
      case round =>
        obtain ⟨j, hj, rfl, hs, hd, hap, hb3⟩ := hrel
        obtain ⟨w3, rfl⟩ : ∃ w3 : World, w3 = wr := ⟨_, rfl⟩
        have hz3 := hb3.size
        have hB3 : Below w.heap.size w w3 := hb.trans (hb3.mono hz)
        go_wp2_with fail
        refine (HA2.out _ hB3 1 20 (by decide) (by decide) (by decide) (by decide)).mono ?_
        rintro e w' ⟨rfl, rfl⟩
        by_cases hlt : j < K
        · have hlt2 : (j : Int) < (k : Int) + atB m 1 20 := by have := HK.out; omega
          have hsb := sdV_bd c m j
          have hok := dropOk_at (n := k) (c := c) (m := m) (i := j) hN1 (by omega)
          have hok2 := dropOfOk_at (n := k) (c := c) (m := m) (i := j) hN1 (by omega)
          have hv := dropOfV_at (n := k) (c := c) (m := m) (i := j) hN1 (by omega)
          have hp := dropPlacesL_at (n := k) (c := c) (m := m) (i := j) hN1 (by omega)
          have hb1 := atB_bd c j 256 (by decide)
          have hb2 := atB_bd m j 256 (by decide)
          have hs1 := sdL_succ c m j
          have hd1 := drL_succ c m (blkL c k) j
          have hdl := dropL_pos k (sdV c m j) (by omega)
          have hdm := dropL_len k (sdV c m j)
          have hdmm := dropL_mem k (sdV c m j) (by omega)
          obtain ⟨s, hs⟩ : ∃ s, sdV c m j = s := ⟨_, rfl⟩
          have HSE := Lib.hid (show 1000 * atB c j 256 + atB m j 256 = s from hs)
          rw [hs] at hok hok2 hv hp hs1 hd1 hdl hdm hdmm hsb
          have HOK := Lib.hid hok
          have HOK2 := Lib.hid hok2
          have HV := Lib.hid hv
          have HP := Lib.hid hp
          have HS1 := Lib.hid hs1
          have HD1 := Lib.hid hd1
          have HMM := Lib.hid hdmm
          clear hok hok2 hv hp hs1 hd1 hs hdmm
          go_wp2_with fail
          refine (HA1.out _ hB3 j 256 (by omega) (by omega) (by decide) (by decide)).mono ?_
          rintro e w' ⟨rfl, rfl⟩
          go_wp2_with fail
          refine (HA2.out _ hB3 j 256 (by omega) (by omega) (by decide) (by decide)).mono ?_
          rintro e w' ⟨rfl, rfl⟩
          go_wp2_with fail
          rw [HSE.out]
          clear hlt2 hb1 hb2
          refine (impl_DropPlaces_c w3 k s).mono ?_
          rintro e w4 ⟨v4, rfl, ho4, hb4⟩
          rw [HOK.out]
          rw [HP.out] at ho4
          have hs := own_below hs hb4 (Nat.le_refl _)
          have hd := own_below hd hb4 (Nat.le_refl _)
          have hbk4 := own_below hbk (hb3.trans (hb4.mono hz3)) (Nat.le_refl _)
          have hB4 : Below w1.heap.size w1 w4 := hb3.trans (hb4.mono hz3)
          have hz4 := hb4.size
          go_wp2_with fail
          refine (spec_DropPlaces_c w4 k s).mono ?_
          rintro e w5 ⟨v5, rfl, ho5, hb5⟩
          rw [HOK.out]
          rw [HP.out] at ho5
          have hs := own_below hs hb5 (Nat.le_refl _)
          have hd := own_below hd hb5 (Nat.le_refl _)
          have hbk5 := own_below hbk4 hb5 (Nat.le_refl _)
          have hp4 := own_below ho4 hb5 (Nat.le_refl _)
          have hB5 : Below w1.heap.size w1 w5 := hB4.trans (hb5.mono hB4.size)
          have hz5 := hb5.size
          go_wp2_with fail
          refine (impl_DropOf_c w5 S6 k c6 (blkL c k) (blkL_len c k) (by omega) (sl_of_own hbk5) s).mono ?_
          rintro e w6 ⟨rfl, hb6⟩
          rw [HOK2.out]
          have hs := own_below hs hb6 (Nat.le_refl _)
          have hd := own_below hd hb6 (Nat.le_refl _)
          have hbk6 := own_below hbk5 hb6 (Nat.le_refl _)
          have hp4 := own_below hp4 hb6 (Nat.le_refl _)
          have hp5 := own_below ho5 hb6 (Nat.le_refl _)
          have hB6 : Below w1.heap.size w1 w6 := hB5.trans (hb6.mono hB5.size)
          have hz6 := hb6.size
          clear hbk4 hbk5 ho4 ho5
          obtain ⟨S4, c4, rfl, ht4⟩ := Ow.opn hp4
          obtain ⟨S5, c5, rfl, ht5⟩ := Ow.opn hp5
          clear hp5
          obtain ⟨D, hD⟩ : ∃ D, dropL k s = D := ⟨_, rfl⟩
          rw [hD] at ht4 ht5 hdl hdm ⊢
          have HDD := Lib.hid hD
          clear hD
          go_wp2_with fail
          refine (b10Ints_t w6 S4 S5 D.length c4 c5 _ _ D rfl (by omega) (sl_of_own ht4) (sl_of_own ht5)).mono ?_
          rintro e w' ⟨rfl, q, rfl⟩
          go_wp2
          rw [HV.out, HDD.out]
          go_loop [18, 101] (fun x i => ∃ r : Nat, r ≤ D.length ∧ i = .int .i64 r ∧ x = .int .i64 (xorAll (blkL c k) D r)) (fun _ i => D.length - (intOf i).toNat)
          case atStart => exact ⟨0, Nat.zero_le _, rfl, rfl⟩
          case round =>
            obtain ⟨r, hr, rfl, rfl⟩ := hrel
            by_cases hrl : r < D.length
            · have hmm := HMM.out (D[r]'hrl) (by rw [HDD.out]; exact List.getElem_mem _)
              obtain ⟨b4, o4, rfl, _, hc4⟩ := (sl_of_own ht4).get r hrl
              have hx := xorAll_succ (blkL c k) D r hrl
              obtain ⟨p, hp⟩ : ∃ p : Nat, D[r]'hrl = (p : Int) := ⟨(D[r]'hrl).toNat, by omega⟩
              rw [hp] at hmm hc4 hx
              have hpk : p < (blkL c k).length := by rw [blkL_len]; omega
              obtain ⟨b6, o6, rfl, _, hc6⟩ := (sl_of_own hbk6).get p hpk
              have hg : (blkL c k).getD p 0 = (blkL c k)[p]'hpk := by simp [List.getD, hpk]
              rw [Int.toNat_natCast, hg] at hx
              obtain ⟨y, hy⟩ : ∃ y, (blkL c k)[p]'hpk = y := ⟨_, rfl⟩
              rw [hy] at hx hc6
              have HX := Lib.hid hx
              rw [blkL_len] at hpk
              clear hx hg hp hy
              go_wp2
              go_round
              case rel => exact ⟨r + 1, by omega, by go_num, by rw [HX.out]⟩
              case measure => simp [intOf]; omega
            · have : r = D.length := by omega
              subst this
              obtain ⟨X, hX⟩ : ∃ X, xorAll (blkL c k) D D.length = X := ⟨_, rfl⟩
              rw [hX]
              have HXX := Lib.hid hX
              have hq : ∀ b : Int, (b == b) = true := fun b => by simp
              clear hX
              have hs6 : Ow (w6.drewN q) w1.heap.size 2 u8 ((sdL c m j).map (Value.int .i64)) := hs
              have hd6 : Ow (w6.drewN q) w1.heap.size 2 u9 ((drL c m (blkL c k) j).map (Value.int .i64)) := hd
              have hB6d : Below w1.heap.size w1 (w6.drewN q) := below_drewN hB6 q
              have hz6d : w1.heap.size ≤ (w6.drewN q).heap.size := hB6d.size
              have hln1 : ((sdL c m j).map (Value.int .i64)).length + 1 ≤ 1099511627776 := by rw [List.length_map, sdL_len]; omega
              have hln2 : ((drL c m (blkL c k) j).map (Value.int .i64)).length + 1 ≤ 1099511627776 := by rw [List.length_map, drL_len]; omega
              have hsd := sdL_len c m j
              have hdd := drL_len c m (blkL c k) j
              have HL1 := Lib.hid hsd
              have HL2 := Lib.hid hdd
              clear hs hd hB6 hbk6 ht4 ht5 hsd hdd
              go_wp2_with (first
                | (at_builtin; refine appA Try.underlying25 infoInt64 rfl (by decide) rfl _ _ rfl _ _ _ rfl (hd7.alloc _) _ _ _ rfl (cell_new1 _ _ _) rfl hln2 (by simp; omega) ?_; intro v2 w8 ho8 hg8 ha8; have hs8 := ap_kept (ho7.alloc _) hap7 hg8; have hap8 := (Ap.of_new hap7.symm (ho7.alloc _) (Nat.le_refl _) ha8).symm; have hB8 := below_marked (hB7.alloc hB7.size _) hg8 (own_in hd7) (Nat.le_refl _) (by simp; omega))
                | (at_builtin; refine appA Try.underlying25 infoInt64 rfl (by decide) rfl _ _ rfl _ _ _ rfl (hs6.alloc _) _ _ _ rfl (cell_new1 _ _ _) rfl hln1 (by simp; omega) ?_; intro v' w7 ho7 hg7 ha7; have hd7 := ap_kept (hd6.alloc _) hap.symm hg7; have hap7 := Ap.of_new hap (hd6.alloc _) (Nat.le_refl _) ha7; have hB7 := below_marked (hB6d.alloc hz6d _) hg7 (own_in hs6) (Nat.le_refl _) (by simp; omega); have hz7 := hB7.size))
              go_roundw
              case rel =>
                refine ⟨j + 1, by omega, by go_num, ?_, ?_, hap8, hB8⟩
                · rw [HS1.out, List.map_append]
                  unfold Ow
                  simpa using hs8
                · rw [HD1.out, List.map_append, HV.out, HDD.out, HXX.out]
                  exact ho8
              case measure => simp [intOf]; omega
        · have hlt2 : ¬ (j : Int) < (k : Int) + atB m 1 20 := by have := HK.out; omega
          have hjK : j = K := by omega
          subst hjK
          obtain ⟨S8, c8, rfl, ht8⟩ := hs.opn
          obtain ⟨S9, c9, rfl, ht9⟩ := hd.opn
          rw [sdL_len] at ht8 ⊢
          rw [drL_len] at ht9 ⊢
          have hbk3 := own_below hbk hb3 (Nat.le_refl _)
          clear hs hd
          go_wp2_with fail
          refine (spec_PeelDrops_c w3 k S8 j c8 (sdL c m j) (sdL_len c m j) (by omega) (sl_of_own ht8) S9 j c9 (drL c m (blkL c k) j) (drL_len c m _ j) (by omega) (sl_of_own ht9)).mono ?_
          rintro e w4 ⟨v4, rfl, _, hb4⟩
          have ht8 := own_below ht8 hb4 (Nat.le_refl _)
          have ht9 := own_below ht9 hb4 (Nat.le_refl _)
          have hbk4 := own_below hbk3 hb4 (Nat.le_refl _)
          have hB4 : Below w.heap.size w w4 := hB3.trans (hb4.mono hB3.size)
          go_wp2_with fail
          refine (impl_PeelDrops_c w4 k S8 j c8 (sdL c m j) (sdL_len c m j) (by omega) (sl_of_own ht8) S9 j c9 (drL c m (blkL c k) j) (drL_len c m _ j) (by omega) (sl_of_own ht9)).mono ?_
          rintro e w5 ⟨v5, rfl, ho5, hb5⟩
          have hbk5 := own_below hbk4 hb5 (Nat.le_refl _)
          have hB5 : Below w.heap.size w w5 := hB4.trans (hb5.mono hB4.size)
          have hq : ∀ b : Bool, (b == b) = true := fun b => by simp
          cases hok : peelOk k (sdL c m j) (drL c m (blkL c k) j)
          · clear hok hbk4 hbk5 hbk3 ho5 ht8 ht9
            go_wp2
            go_ret
            exact ⟨rfl, hB5⟩
          · have hpe := peel_at (n := k) (K := j) (c := c) (m := m) hN1 (by omega) hok
            rw [hpe] at ho5
            obtain ⟨S5, c5, rfl, ht5⟩ := ho5.opn
            rw [blkL_len] at ht5 ⊢
            clear hok hpe hbk4 hbk3 ho5 ht8 ht9
            go_wp2_with fail
            refine (b10Ints_t w5 S5 S6 k c5 c6 _ _ (blkL c k) (blkL_len c k) (by omega) (sl_of_own ht5) (sl_of_own hbk5)).mono ?_
            rintro e w' ⟨rfl, q, rfl⟩
            go_wp2
            go_ret
            exact ⟨rfl, below_drewN hB5 q⟩

end Go.Proofs.Ytlcnfaodkglhpaa
