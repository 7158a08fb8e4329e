/-
  Contract: what bytes begin with, of the reference.
  Conditions: at most 1048576 bytes.
-/
import Derived.Test.YtmkjlhobnlgpjaaTR
import Derived.Deep.RegionHeld2
namespace Go.Proofs.Ytmkjlhobnlgpjaa
open Go.RowKit

set_option maxRecDepth 100000 in
set_option maxHeartbeats 8000000 in
theorem spec_l07Begin_c (w : World) (s : ByteArray) (hs : s.size ≤ 1048576) :
    Calls Try.prog 50 #[.string s] w fun e w' => BegPost w s e w' := by
  obtain ⟨n1, hn1⟩ : ∃ q, nB s 4 = q := ⟨_, rfl⟩
  have b1 : n1 < 256 := by rw [← hn1]; exact nB_lt s 4
  obtain ⟨A1, hA1⟩ : ∃ q, a1 s = q := ⟨_, rfl⟩
  have e1 : A1 = 5 + n1 := by rw [← hA1, ← hn1]; rfl
  obtain ⟨n2, hn2⟩ : ∃ q, m2 s = q := ⟨_, rfl⟩
  have b2 : n2 < 256 := by rw [← hn2]; exact nB_lt s _
  obtain ⟨P, hP⟩ : ∃ q, (n2 + 7) / 8 = q := ⟨_, rfl⟩
  obtain ⟨n3, hn3⟩ : ∃ q, m3 s = q := ⟨_, rfl⟩
  have b3 : n3 < 256 := by rw [← hn3]; exact nB_lt s _
  obtain ⟨A2, hA2⟩ : ∃ q, a2 s = q := ⟨_, rfl⟩
  have e2 : A2 = A1 + 1 := by rw [← hA2, ← hA1]; rfl
  obtain ⟨A3, hA3⟩ : ∃ q, a3 s = q := ⟨_, rfl⟩
  have e3 : A3 = A2 + P := by rw [← hA3, ← hA2, ← hP, ← hn2]; rfl
  obtain ⟨A4, hA4⟩ : ∃ q, a4 s = q := ⟨_, rfl⟩
  have e4 : A4 = A3 + 1 := by rw [← hA4, ← hA3]; rfl
  have e5 : a5 s = A4 + 4 * n3 := by rw [← hA4, ← hn3]; rfl
  have HBAD := fun (h : ¬ A4 + 4 * n3 + 2 ≤ s.size) => begin_no (s := s) (by rw [e5]; exact h)
  by_cases hk1 : 5 ≤ s.size
  rotate_left
  · have HB := Lib.hid (HBAD (by omega))
    clear HBAD hn1 hA1 hn2 hP hn3 hA2 hA3 hA4 e1 e2 e3 e4 e5
    go_enter Try.func50, Try.ntmps50
    go_wp2
    refine bodyPost_ret (v := .tuple #[.agg #[.string ⟨#[]⟩, .slice none 0 0, .slice none 0 0], .int .i64 0]) (by unfold results; rw [Try.results50]; go_simp) rfl ?_
    exact beg_no HB.out ((Below.refl _ _).alloc (Nat.le_refl _) _)
  have i4 : s[4].toNat = n1 := by rw [← hn1]; exact (nB_get (by omega)).symm
  have r1 : (5 : Int) + (n1 : Int) = (A1 : Int) := by omega
  have r3 : (A1 : Int) + 1 = (A2 : Int) := by omega
  have HE1 := Lib.hid e1
  have HE2 := Lib.hid e2
  have HE3 := Lib.hid e3
  have HE4 := Lib.hid e4
  have HE5 := Lib.hid e5
  have HP := Lib.hid hP
  have HM2 := Lib.hid hn2
  have HM3 := Lib.hid hn3
  have HA1 := Lib.hid hA1
  have HA2 := Lib.hid hA2
  have HA3 := Lib.hid hA3
  have HA4 := Lib.hid hA4
  have HBad := Lib.hid HBAD
  clear HBAD e1 e2 e3 e4 e5 hP hn1 hn2 hn3 hA1 hA2 hA3 hA4
  by_cases hk2 : A1 + 1 ≤ s.size
  rotate_left
  · have HB := Lib.hid (HBad.out (by have := HE1.out; have := HE2.out; have := HE3.out; have := HE4.out; omega))
    go_enter Try.func50, Try.ntmps50
    go_wp2
    refine bodyPost_ret (v := .tuple #[.agg #[.string ⟨#[]⟩, .slice none 0 0, .slice none 0 0], .int .i64 0]) (by unfold results; rw [Try.results50]; go_simp) rfl ?_
    exact beg_no HB.out ((Below.refl _ _).alloc (Nat.le_refl _) _)
  have iA : s[A1].toNat = n2 := by rw [← HM2.out]; unfold m2; rw [HA1.out]; exact (nB_get (by omega)).symm
  have r2 : ((n2 : Int) + 7) / 8 = (P : Int) := by have := HP.out; omega
  have dd1 : ¬ s.size < A2 := by have := HE2.out; omega
  by_cases hk3 : A3 + 1 ≤ s.size
  rotate_left
  · have HB := Lib.hid (HBad.out (by have := HE1.out; have := HE2.out; have := HE3.out; have := HE4.out; omega))
    have dd2 : (s.size : Int) < (A2 : Int) + (P : Int) + 1 := by have := HE2.out; have := HE3.out; omega
    go_enter Try.func50, Try.ntmps50
    go_wp2
    refine bodyPost_ret (v := .tuple #[.agg #[.string ⟨#[]⟩, .slice none 0 0, .slice none 0 0], .int .i64 0]) (by unfold results; rw [Try.results50]; go_simp) rfl ?_
    exact beg_no HB.out (((Below.refl _ _).alloc (Nat.le_refl _) _).alloc (by simp) _)
  have dd2 : ¬ (s.size : Int) < (A2 : Int) + (P : Int) + 1 := by have := HE2.out; have := HE3.out; omega
  have i3 : s[A3].toNat = n3 := by rw [← HM3.out]; unfold m3; rw [HA3.out]; exact (nB_get (by omega)).symm
  have r4 : (A2 : Int) + (P : Int) = (A3 : Int) := by have := HE3.out; omega
  have r5 : (A3 : Int) + 1 = (A4 : Int) := by have := HE4.out; omega
  have z4 : A4 ≤ 1048577 := by have := HE4.out; omega
  go_enter Try.func50, Try.ntmps50
  go_wp2_with fail
  try simp only [decide_eq_false dd1]
  go_loopw [7] (fun i wr => ∃ (k : Nat) (v1 : Value), k ≤ n2 ∧ i = .int .i64 k ∧ Obj wr w.heap.size 35 #[.string ⟨#[]⟩, .slice none 0 0, .slice none 0 0] ∧ Obj wr (w.heap.size + 1) 35 #[.string (s.extract 5 A1), v1, .slice none 0 0] ∧ wr.ownsRow (w.heap.size + 2) 4 1 v1 k ((bitsP s A2 k).map Value.bool) ∧ Below w.heap.size w wr ∧ w.heap.size + 2 ≤ wr.heap.size) (fun i _ => n2 - (intOf i).toNat)
  case atStart => exact ⟨0, _, Nat.zero_le _, rfl, (Obj.new' _ _ _ _ rfl).alloc _, Obj.new' _ _ _ _ (by simp), World.ownsRow_nil _ _ _ _, ((Below.refl _ _).alloc (Nat.le_refl _) _).alloc (by simp) _, by simp⟩
  case round =>
    obtain ⟨k, v1, hk, rfl, hR, hO, hown, hb, hzz⟩ := hrel
    by_cases hlt : k < n2
    · have c1 := hO.cell 1
      simp only [List.getElem?_toArray, List.getElem?_cons_zero, List.getElem?_cons_succ] at c1
      have f1 := hO.frozen 1
      have hz1 : w.heap.size + 1 < wr.heap.size := by omega
      obtain ⟨X, hXe⟩ : ∃ X, X = A2 + k / 8 := ⟨_, rfl⟩
      have hX : X < s.size := by have := HE2.out; have := HE3.out; have := HP.out; omega
      obtain ⟨q, hq⟩ : ∃ q, nB s X = q := ⟨_, rfl⟩
      have hq2 : s[X].toNat = q := by rw [← hq]; exact (nB_get hX).symm
      have hqb : q < 256 := by rw [← hq]; exact nB_lt s _
      obtain ⟨K8, hK8⟩ : ∃ K8, k / 8 = K8 := ⟨_, rfl⟩
      obtain ⟨R8, hR8⟩ : ∃ R8, k % 8 = R8 := ⟨_, rfl⟩
      have g1 : IntKind.i64.wrap ((k : Int) / 8) = (K8 : Int) := by rw [IntWalk.i64_in _ (by omega)]; omega
      have g2 : IntKind.i64.wrap ((A2 : Int) + (K8 : Int)) = (X : Int) := by rw [IntWalk.i64_in _ (by omega)]; omega
      have g3 : (0 : Int) ≤ (X : Int) := by omega
      have g4 : (X : Int) < (s.size : Int) := by omega
      have g5 : IntKind.u64.wrap ((k : Int).tmod 8) = (R8 : Int) := by rw [Int.tmod_eq_emod_of_nonneg (by omega), IntWalk.u64_in _ (by omega)]; omega
      have g6 : R8 < 8 := by omega
      have hbt : bitsP s A2 (k + 1) = bitsP s A2 k ++ [bitAt q R8] := by rw [bitsP_snoc, ← hXe, hR8, hq]
      have HB := Lib.hid hbt
      clear hXe hK8 hR8 hq hbt r4 r5 i3 dd2 iA i4 r1 r2 r3
      have hbase : w.heap.size + 2 ≤ (wr.alloc (.cells #[.bool (bitAt q R8)] 4)).heap.size := by simp; omega
      obtain ⟨i0, hi, hz0, hz1, hz2⟩ := info_parts infoBool
      go_wp2_with fail
      go_region_law (refine step_append_lies _ (by rfl) _ _ _ (by rfl) (w.heap.size + 2) 4 i0 _ 1 1 Try.underlying28 hi hz0 hz1 hz2 rfl (by omega) v1 k _ (by rfl) ((World.ownsRow.alloc hown _).drew) ⟨wr.heap.size, 0, none⟩ 1 1 [_] (by rfl) (by rfl) (World.news_of_block (cs := #[_]) (t := 4) (fr := (0, 0)) (heap_alloc_new wr _)) (by simp [Value.oneCell']) (by omega) (by unfold maxLen; omega) (by omega) (by simp; omega) (wr.heap.size + 1) (by simp) ?_; intro gg cap w1 hown1 hgrow hat hltg; have hR1 := (hR.alloc _).drew.kept hgrow (hR.not_row (by decide) hown); have hO1 := (hO.alloc _).drew.kept hgrow (hO.not_row (by decide) hown); have o1 := hO1.cell 1; simp only [List.getElem?_toArray, List.getElem?_cons_zero, List.getElem?_cons_succ] at o1; have of := hO1.frozen 1)
      all_goals
        obtain ⟨hbw, hzw⟩ := app_end (O := w.heap.size + 1) (off := 1) (u := .slice (some ⟨gg, 0, none⟩) (k + 1) cap) hb hgrow hown (by omega) (by omega)
        rw [bit_eq q hqb R8 g6, ← List.map_singleton (f := Value.bool), ← List.map_append, ← HB.out] at hown1
        have hO2 := hO1.set 1 (.slice (some ⟨gg, 0, none⟩) (k + 1) cap)
        simp only [List.setIfInBounds_toArray, List.set_cons_succ, List.set_cons_zero] at hO2
        have hR2 := hR1.far (b := w.heap.size + 1) (by omega) 1 (.slice (some ⟨gg, 0, none⟩) (k + 1) cap)
        have ho2 := hown1.kept (grownBy_set w1 (w.heap.size + 1) 1 (.slice (some ⟨gg, 0, none⟩) (k + 1) cap)) (.inr (hO1.not_row (by decide) hown1).symm)
        go_wp2
        go_roundw
        case rel => exact ⟨k + 1, _, by omega, by go_num, hR2, hO2, ho2, hbw, by omega⟩
        case measure => simp [intOf] <;> omega
    · obtain rfl : k = n2 := by omega
      clear hlt
      by_cases hk4 : A4 + 4 * n3 + 2 ≤ s.size
      rotate_left
      · have HB := Lib.hid (HBad.out hk4)
        have dd3 : (s.size : Int) < (A4 : Int) + 4 * (n3 : Int) + 2 := by omega
        have c0 := hR.cell 0
        have c1 := hR.cell 1
        have c2 := hR.cell 2
        have f0 := hR.frozen 0
        have f1 := hR.frozen 1
        have f2 := hR.frozen 2
        simp only [List.getElem?_toArray, List.getElem?_cons_zero, List.getElem?_cons_succ] at c0 c1 c2
        clear hO hR hown
        go_wp2
        refine bodyPost_ret (v := .tuple #[.agg #[.string ⟨#[]⟩, .slice none 0 0, .slice none 0 0], .int .i64 0]) (by unfold results; rw [Try.results50]; go_simp) rfl ?_
        exact beg_no HB.out (((hb.setCell (p := ⟨w.heap.size, 0, none⟩) (Nat.le_refl _) _).setCell (p := ⟨w.heap.size, 1, none⟩) (Nat.le_refl _) _).setCell (p := ⟨w.heap.size, 2, none⟩) (Nat.le_refl _) _)
      have dd3 : ¬ (s.size : Int) < (A4 : Int) + 4 * (n3 : Int) + 2 := by omega
      go_wp2_with fail
      go_loopw [4, 6] (fun p i wr => ∃ (j : Nat) (v2 : Value), j ≤ n3 ∧ p = .int .i64 ((A4 + 4 * j : Nat) : Int) ∧ i = .int .i64 ((n3 - j : Nat) : Int) ∧ Obj wr w.heap.size 35 #[.string ⟨#[]⟩, .slice none 0 0, .slice none 0 0] ∧ Obj wr (w.heap.size + 1) 35 #[.string (s.extract 5 A1), v1, v2] ∧ wr.ownsRow (w.heap.size + 2) 4 1 v1 k ((bitsP s A2 k).map Value.bool) ∧ wr.ownsRow (w.heap.size + 2) 58 1 v2 j ((softP s A4 j).map (Value.float .f32)) ∧ Below w.heap.size w wr ∧ w.heap.size + 2 ≤ wr.heap.size) (fun _ i _ => (intOf i).toNat)
      case atStart => exact ⟨0, _, Nat.zero_le _, rfl, rfl, hR, hO, hown, World.ownsRow_nil _ _ _ _, hb, hzz⟩
      case round =>
        clear hR hO hown hb hzz
        obtain ⟨j, v2, hj, rfl, rfl, hR, hO, hown, hown2, hb, hzz⟩ := hrel
        by_cases hlt : j < n3
        · have c1 := hO.cell 2
          simp only [List.getElem?_toArray, List.getElem?_cons_zero, List.getElem?_cons_succ] at c1
          have f1 := hO.frozen 2
          obtain ⟨X, hXe⟩ : ∃ X, A4 + 4 * j = X := ⟨_, rfl⟩
          rw [hXe]
          obtain ⟨X1, hX1⟩ : ∃ q, X + 1 = q := ⟨_, rfl⟩
          obtain ⟨X2, hX2⟩ : ∃ q, X + 2 = q := ⟨_, rfl⟩
          obtain ⟨X3, hX3⟩ : ∃ q, X + 3 = q := ⟨_, rfl⟩
          have x0 : X < s.size := by omega
          have x1 : X1 < s.size := by omega
          have x2 : X2 < s.size := by omega
          have x3 : X3 < s.size := by omega
          obtain ⟨q0, hq0⟩ : ∃ q, nB s X = q := ⟨_, rfl⟩
          obtain ⟨q1, hq1⟩ : ∃ q, nB s X1 = q := ⟨_, rfl⟩
          obtain ⟨q2, hq2⟩ : ∃ q, nB s X2 = q := ⟨_, rfl⟩
          obtain ⟨q3, hq3⟩ : ∃ q, nB s X3 = q := ⟨_, rfl⟩
          have y0 : s[X].toNat = q0 := by rw [← hq0]; exact (nB_get x0).symm
          have y1 : s[X1].toNat = q1 := by rw [← hq1]; exact (nB_get x1).symm
          have y2 : s[X2].toNat = q2 := by rw [← hq2]; exact (nB_get x2).symm
          have y3 : s[X3].toNat = q3 := by rw [← hq3]; exact (nB_get x3).symm
          have u0 : q0 < 256 := by rw [← hq0]; exact nB_lt s _
          have u1 : q1 < 256 := by rw [← hq1]; exact nB_lt s _
          have u2 : q2 < 256 := by rw [← hq2]; exact nB_lt s _
          have u3 : q3 < 256 := by rw [← hq3]; exact nB_lt s _
          obtain ⟨W4, hW4⟩ : ∃ q, w4 s (A4 + 4 * j) = q := ⟨_, rfl⟩
          have hWv : q0 + 256 * q1 + 65536 * q2 + 16777216 * q3 = W4 := by rw [← hW4, hXe, ← hq0, ← hq1, ← hq2, ← hq3, ← hX1, ← hX2, ← hX3]; rfl
          have g1 : IntKind.i64.wrap ((X : Int) + 1) = (X1 : Int) := by rw [IntWalk.i64_in _ (by omega)]; omega
          have g2 : IntKind.i64.wrap ((X : Int) + 2) = (X2 : Int) := by rw [IntWalk.i64_in _ (by omega)]; omega
          have g3 : IntKind.i64.wrap ((X : Int) + 3) = (X3 : Int) := by rw [IntWalk.i64_in _ (by omega)]; omega
          have k0 : (0 : Int) ≤ (X : Int) := by omega
          have k1 : (0 : Int) ≤ (X1 : Int) := by omega
          have k2 : (0 : Int) ≤ (X2 : Int) := by omega
          have k3 : (0 : Int) ≤ (X3 : Int) := by omega
          have l0 : (X : Int) < (s.size : Int) := by omega
          have l1 : (X1 : Int) < (s.size : Int) := by omega
          have l2 : (X2 : Int) < (s.size : Int) := by omega
          have l3 : (X3 : Int) < (s.size : Int) := by omega
          have hWb : W4 < 4294967296 := by omega
          have hbt : softP s A4 (j + 1) = softP s A4 j ++ [W4] := by rw [softP_snoc, hW4]
          have HB := Lib.hid hbt
          have HW := Lib.hid (show (q0 : Int) + 256 * (q1 : Int) + 65536 * (q2 : Int) + 16777216 * (q3 : Int) = (W4 : Int) by omega)
          have HX := Lib.hid hXe
          clear hXe hX1 hX2 hX3 hq0 hq1 hq2 hq3 hW4 hWv hbt r4 r5 i3 dd2 iA i4 r1 r2 r3 dd3
          have hbase : w.heap.size + 2 ≤ (wr.alloc (.cells #[.float .f32 W4] 58)).heap.size := by simp; omega
          obtain ⟨i0, hi, hz0, hz1, hz2⟩ := info_parts infoFloat32
          go_wp2_with fail
          go_quiet ((go_at_call 73; exact FromBits_at HW.out hWb))
          obtain ⟨wq, hwq⟩ : ∃ q, wr.drewN nq = q := ⟨_, rfl⟩
          have hR1 : Obj wq w.heap.size 35 #[.string ⟨#[]⟩, .slice none 0 0, .slice none 0 0] := by rw [← hwq]; exact hR
          have hO1 : Obj wq (w.heap.size + 1) 35 #[.string (s.extract 5 A1), v1, v2] := by rw [← hwq]; exact hO
          have how1 : wq.ownsRow (w.heap.size + 2) 4 1 v1 k ((bitsP s A2 k).map Value.bool) := by rw [← hwq]; exact hown
          have how2 : wq.ownsRow (w.heap.size + 2) 58 1 v2 j ((softP s A4 j).map (Value.float .f32)) := by rw [← hwq]; exact hown2
          have hb1 : Below w.heap.size w wq := by rw [← hwq]; exact below_drewN hb _
          have hzq : w.heap.size + 2 ≤ wq.heap.size := by rw [← hwq]; exact hzz
          have c1 : wq.cell? ⟨w.heap.size + 1, 2, none⟩ = some v2 := by rw [← hwq]; exact c1
          have f1 : wq.frozen? ⟨w.heap.size + 1, 2, none⟩ = false := by rw [← hwq]; exact f1
          rw [hwq]
          clear hwq hR hO hown hown2 hb hzz hbase
          have hz2' : w.heap.size + 1 < wq.heap.size := by omega
          go_wp2_with (refine wpList_append_lies _ (by rfl) _ _ _ (by rfl) (w.heap.size + 2) 58 i0 _ 1 4 Try.underlying29 hi hz0 hz1 hz2 rfl (by omega) v2 j _ (by rfl) (World.ownsRow.alloc how2 _) ⟨wq.heap.size, 0, none⟩ 1 1 [_] (by rfl) (by rfl) (World.news_of_block (cs := #[_]) (t := 58) (fr := (0, 0)) (heap_alloc_new wq _)) (by simp [Value.oneCell']) (by omega) (by unfold maxLen; omega) (by omega) (by simp; omega) (wq.heap.size + 1) (by simp) ?_; intro gg cap w1 hown1 hgrow hat hltg; have hR2 := (hR1.alloc _).kept hgrow (hR1.not_row (by decide) how2); have hO2 := (hO1.alloc _).kept hgrow (hO1.not_row (by decide) how2); have how3 := (World.ownsRow.alloc how1 _).kept hgrow (own_types how1 how2 (by decide)); have o1 := hO2.cell 2; simp only [List.getElem?_toArray, List.getElem?_cons_zero, List.getElem?_cons_succ] at o1; have of := hO2.frozen 2)
          obtain ⟨hbw, hzw⟩ := app_end' (O := w.heap.size + 1) (off := 2) (u := .slice (some ⟨gg, 0, none⟩) (j + 1) cap) hb1 hgrow how2 (by omega) (by omega)
          rw [← List.map_singleton (f := Value.float .f32), ← List.map_append, ← HB.out] at hown1
          have hO3 := hO2.set 2 (.slice (some ⟨gg, 0, none⟩) (j + 1) cap)
          simp only [List.setIfInBounds_toArray, List.set_cons_succ, List.set_cons_zero] at hO3
          have hR3 := hR2.far (b := w.heap.size + 1) (by omega) 2 (.slice (some ⟨gg, 0, none⟩) (j + 1) cap)
          have ho2 := hown1.kept (grownBy_set w1 (w.heap.size + 1) 2 (.slice (some ⟨gg, 0, none⟩) (j + 1) cap)) (.inr (hO2.not_row (by decide) hown1).symm)
          have ho3 := how3.kept (grownBy_set w1 (w.heap.size + 1) 2 (.slice (some ⟨gg, 0, none⟩) (j + 1) cap)) (.inr (hO2.not_row (by decide) how3).symm)
          go_roundw
          case rel => exact ⟨j + 1, _, by omega, congrArg _ (by have := HX.out; omega), congrArg _ (by omega), hR3, hO3, ho3, ho2, hbw, by omega⟩
          case measure => simp [intOf] <;> omega
        · obtain rfl : j = n3 := by omega
          clear hlt
          obtain ⟨N, hN⟩ : ∃ q, A4 + 4 * j + 2 = q := ⟨_, rfl⟩
          have hNs : N ≤ s.size := by omega
          have hl1 := bitsP_len s A2 k
          have hl2 := softP_len s A4 j
          have hlt2 := softP_lt s A4 j
          have hpar : parseD s = (s.extract 5 A1, bitsP s A2 k, softP s A4 j) := by unfold parseD; rw [HA1.out, HA2.out, HM2.out, HA4.out, HM3.out]
          have ha5 : a5 s + 2 = N := by have := HE5.out; omega
          obtain ⟨nm, hnm⟩ : ∃ q, s.extract 5 A1 = q := ⟨_, rfl⟩
          have hnmz : nm.size ≤ 1048576 := by rw [← hnm]; simp [ByteArray.size_extract]; omega
          obtain ⟨bs, hbs⟩ : ∃ q, bitsP s A2 k = q := ⟨_, rfl⟩
          obtain ⟨xs, hxs⟩ : ∃ q, softP s A4 j = q := ⟨_, rfl⟩
          rw [hnm] at hpar hO
          rw [hbs] at hl1 hpar hown
          rw [hxs] at hl2 hlt2 hpar hown2
          have hbeg := begin_is hpar ha5 hNs
          have ow1 : Ow wr (w.heap.size + 2) 4 v1 (bs.map Value.bool) := by unfold Ow; rw [List.length_map, hl1]; exact hown
          have ow2 : Ow wr (w.heap.size + 2) 58 v2 (xs.map (Value.float .f32)) := by unfold Ow; rw [List.length_map, hl2]; exact hown2
          obtain ⟨AA, ca, hv1, _, hs1⟩ := Ow.sl ow1
          obtain ⟨AB, cb, hv2, _, hs2⟩ := Ow.sl ow2
          rw [List.length_map, hl1] at hv1
          rw [List.length_map, hl2] at hv2
          subst hv1
          subst hv2
          have hV : ∀ W, Below wr.heap.size wr W → Calls Try.prog 41 #[.pointer (some ⟨w.heap.size + 1, 0, none⟩)] W fun e w' => e = .returned (.bool (validSavedB nm bs xs)) ∧ Below wr.heap.size wr w' := fun W hW => by
            obtain ⟨c0, c1, c2, _⟩ := obj3 (hO.below hW hO.lt)
            refine (spec_l07Saved_c W (w.heap.size + 1) 0 wr.heap.size nm hnmz AA k ca bs hl1 AB j cb xs hl2 (hs2.below hW) c0 c1 c2).mono ?_
            rintro e w' ⟨rfl, q, rfl⟩
            exact ⟨rfl, below_drewN hW q⟩
          have HV := Lib.hid hV
          have HBEG := Lib.hid hbeg
          have HPAR := Lib.hid hpar
          have HA5 := Lib.hid ha5
          have HNM := Lib.hid hnm
          have r6 : IntKind.i64.wrap ((A4 : Int) + 4 * (j : Int) + 2) = (N : Int) := by rw [IntWalk.i64_in _ (by omega)]; omega
          have r8 : (0 : Int) ≤ (N : Int) := by omega
          have r9 : (N : Int) ≤ (s.size : Int) := by omega
          have hbw := hb
          clear hb
          cases hb : validSavedB nm bs xs
          · rw [hb] at HV
            have hbn : beginB s = false := by rw [hbeg]; unfold vld; rw [hb]; rfl
            have HBN := Lib.hid hbn
            have hV0 : ∀ m, Calls Try.prog 41 #[.pointer (some ⟨w.heap.size + 1, 0, none⟩)] (wr.drewN m) fun e w' => e = .returned (.bool false) ∧ ∃ k, w' = wr.drewN k := fun m => by
              obtain ⟨c0, c1, c2, _⟩ := obj3 (hO.below (below_drewN (Below.refl wr.heap.size wr) m) hO.lt)
              refine (spec_l07Saved_c (wr.drewN m) (w.heap.size + 1) 0 wr.heap.size nm hnmz AA k ca bs hl1 AB j cb xs hl2 (hs2.drewN m) c0 c1 c2).mono ?_
              rintro e w' ⟨rfl, q, rfl⟩
              exact ⟨by rw [hb], m + q, World.drewN_drewN _ _ _⟩
            have HV0 := Lib.hid hV0
            clear hV hbeg hpar ha5 hnm hbn hV0
            go_wp2_with fail
            go_quiet ((go_at_call 41; exact HV0.out _))
            obtain ⟨wq, hwq⟩ : ∃ q, wr.drewN nq = q := ⟨_, rfl⟩
            have hRq : Obj wq w.heap.size 35 #[.string ⟨#[]⟩, .slice none 0 0, .slice none 0 0] := by rw [← hwq]; exact hR
            have hbq : Below w.heap.size w wq := by rw [← hwq]; exact below_drewN hbw nq
            obtain ⟨c0, c1, c2, f0, f1, f2⟩ := obj3 hRq
            rw [hwq]
            clear hwq hR hRq
            go_wp2
            refine bodyPost_ret (v := .tuple #[.agg #[.string ⟨#[]⟩, .slice none 0 0, .slice none 0 0], .int .i64 0]) (by unfold results; rw [Try.results50]; go_simp) rfl ?_
            exact beg_no HBN.out (st3_below hbq (Nat.le_refl _) _ _ _)
          · rw [hb] at HV
            have hV2 : ∀ W, Below wr.heap.size wr W → Calls Try.prog 42 #[.pointer (some ⟨w.heap.size + 1, 0, none⟩)] W fun e w' => e = .returned (.string (storeS nm bs xs)) ∧ Below wr.heap.size wr w' := fun W hW => by
              obtain ⟨c0, c1, c2, _⟩ := obj3 (hO.below hW hO.lt)
              obtain ⟨h8, hn8, hm8⟩ := valid_facts hb
              refine (spec_l07Store_c W (w.heap.size + 1) 0 wr.heap.size nm h8 AA k ca bs hl1 (by omega) (hs1.below hW) AB j cb xs hl2 (by omega) (hs2.below hW) hlt2 c0 c1 c2 (by have := hW.size; have := hO.lt; omega) hW.size).mono ?_
              rintro e w' ⟨rfl, hb2⟩
              exact ⟨rfl, hW.trans (hb2.mono hW.size)⟩
            have HV2 := Lib.hid hV2
            obtain ⟨ST, hST⟩ : ∃ q, storeS nm bs xs = q := ⟨_, rfl⟩
            rw [hST] at HV2
            have HST := Lib.hid hST
            clear hV hV2 hST hbeg hpar ha5 hnm
            go_wp2_with fail
            go_region_held2 (fun w' => Below wr.heap.size wr w') (first | exact ⟨rfl, rfl, rfl, Nat.le_refl _, fun _ _ => rfl⟩ | assumption) (first
              | (go_at_call 41; refine (HV.out _ (by assumption)).mono ?_; rintro e w2 ⟨rfl, hb2⟩)
              | (go_at_call 42; refine (HV2.out _ (by assumption)).mono ?_; rintro e w2 ⟨rfl, hb2⟩))
            obtain ⟨TT, hTT⟩ : ∃ q, s.extract 0 N = q := ⟨_, rfl⟩
            rw [hTT]
            have HTT := Lib.hid hTT
            clear hTT
            have hR2 := hR.below hb2 hR.lt
            have hO2 := hO.below hb2 hO.lt
            have hw1 := own_below hown hb2 (Nat.le_refl _)
            have hw2 := own_below hown2 hb2 (Nat.le_refl _)
            have hb3 := hbw.trans (hb2.mono hbw.size)
            obtain ⟨c0, c1, c2, f0, f1, f2⟩ := obj3 hR2
            obtain ⟨d0, d1, d2, _⟩ := obj3 hO2
            have hbN : beginB s = decide (ST = TT) := by rw [HBEG.out]; unfold vld stS; rw [hb, HST.out, HTT.out]; rfl
            have HBN := Lib.hid hbN
            have HR2 := Lib.hid hR2
            have HW1 := Lib.hid hw1
            have HW2 := Lib.hid hw2
            clear hR hO hown hown2 hbN hR2 hO2 hw1 hw2 hs1 hs2
            by_cases hST2 : ST = TT
            · have hEq : (ST.toList == TT.toList) = true := by rw [hST2]; simp
              have HE := Lib.hid hST2
              clear hST2
              simp only [hEq, Bool.not_true]
              go_wp2
              refine bodyPost_ret (v := .tuple #[.agg #[.string nm, .slice AA k ca, .slice AB j cb], .int .i64 (N : Int)]) (by unfold results; rw [Try.results50]; go_simp) rfl ?_
              refine beg_yes HPAR.out HA5.out (by rw [HBN.out, decide_eq_true HE.out]) ?_ ?_ (st3_below hb3 (Nat.le_refl _) _ _ _)
              · unfold Ow
                rw [List.length_map, hl1]
                exact own_base (st3_own HR2.out (by decide) HW1.out _ _ _) (by omega)
              · unfold Ow
                rw [List.length_map, hl2]
                exact own_base (st3_own HR2.out (by decide) HW2.out _ _ _) (by omega)
            · have hEq : (ST.toList == TT.toList) = false := by
                have : ¬ ST.toList = TT.toList := fun h => hST2 (toList_inj h)
                simpa using this
              have HE := Lib.hid hST2
              clear hST2
              simp only [hEq, Bool.not_false]
              go_wp2
              refine bodyPost_ret (v := .tuple #[.agg #[.string ⟨#[]⟩, .slice none 0 0, .slice none 0 0], .int .i64 0]) (by unfold results; rw [Try.results50]; go_simp) rfl ?_
              exact beg_no (by rw [HBN.out, decide_eq_false HE.out]) (st3_below hb3 (Nat.le_refl _) _ _ _)

end Go.Proofs.Ytmkjlhobnlgpjaa
