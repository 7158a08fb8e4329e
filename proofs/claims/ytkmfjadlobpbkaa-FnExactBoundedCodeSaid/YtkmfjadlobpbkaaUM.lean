/-
  Contracts: two sorted parts of a row of the call's own, merged in place.
  Conditions: at most 64 places.
-/
import Derived.Test.YtkmfjadlobpbkaaUI
namespace Go.Proofs.Ytkmfjadlobpbkaa
open Go.RowKit

/-- what a contract of the merge says -/
def MergePost (w : World) (base g n cap : Nat) (ts : List (Int × Value)) (p : Nat → Nat) (key : Nat → Int) (a b : Nat) (e : Ending) (w' : World) : Prop :=
  e = .returned (.tuple #[]) ∧ ∃ q, RowS w' base g n cap ts q ∧ Srt key q a b ∧ Shuf p q a b ∧ w.grownBy w' (some g)


set_option maxRecDepth 100000 in
set_option maxHeartbeats 8000000 in
theorem merge_left_c (w : World) (base g n cap : Nat) (ts : List (Int × Value)) (p : Nat → Nat) (key : Nat → Int) (cz : Nat → Nat → Int) (a b m : Nat) (hm : m = a + 1) (hab : m < b) (hb : b ≤ n) (hn : n ≤ 64) (h : RowS w base g n cap ts p) (hp : ∀ i, i < n → p i < n) (hpt : Parts key p a m b) (hC : Cmp ts key cz ∧ Sls ts) :
    Calls Try.prog 35 #[.slice (some ⟨g, 0, none⟩) n cap, .int .i64 a, .int .i64 m, .int .i64 b, cmpV] w (MergePost w base g n cap ts p key a b) := by
  unfold MergePost cmpV
  have H0 := Lib.hid h
  have HP := Lib.hid hp
  have HPT := Lib.hid hpt
  have HC := Lib.hid hC
  clear h hp hpt hC
  have hm1 : (m : Int) - (a : Int) = 1 := by omega
  have hm2 : wrap64 ((m : Int) - (a : Int)) = 1 := by rw [IntWalk.wrap64_in _ (by omega)]; omega
  have HM := Lib.hid hm
  clear hm
  go_enter Try.func35, Try.ntmps35
  go_wp2
  go_loopw [10, 11] (fun x y wr => ∃ i j : Nat, m ≤ i ∧ i ≤ j ∧ j ≤ b ∧ x = .int .i64 i ∧ y = .int .i64 j ∧ RowS wr base g n cap ts p ∧ w.grownBy wr (some g) ∧ (m < i → lo key (p (i - 1)) (p a)) ∧ (j < b → lo key (p a) (p j))) (fun x y _ => (intOf y).toNat - (intOf x).toNat)
  case atStart => exact ⟨m, b, Nat.le_refl _, by omega, Nat.le_refl _, rfl, rfl, H0.out, grownR _ _, fun h => by omega, fun h => by omega⟩
  case round =>
    obtain ⟨i, j, i1, i2, i3, rfl, rfl, hr, hg, hA, hB⟩ := hrel
    obtain ⟨w1, rfl⟩ : ∃ q' : World, q' = wr := ⟨_, rfl⟩
    have HA := Lib.hid hA
    have HB := Lib.hid hB
    have HR : Hid (RowS w1 base g n cap ts p) := Lib.hid hr
    have HG : Hid (w.grownBy w1 (some g)) := Lib.hid hg
    clear hA hB
    by_cases hlt : i < j
    · obtain ⟨k, hk⟩ : ∃ k, (i + j) / 2 = k := ⟨_, rfl⟩
      have hk1 : ((i : Int) + (j : Int)) / 2 = (k : Int) := by omega
      have hki : i ≤ k ∧ k < j := by omega
      have q1 : (0 : Int) ≤ (k : Int) := by omega
      have q2 : (k : Int) < (n : Int) := by omega
      have q3 : (0 : Int) ≤ (a : Int) := by omega
      have q4 : (a : Int) < (n : Int) := by have := HM.out; omega
      clear hr hg hk
      obtain ⟨c1, c3⟩ := HR.out.get (i := k) (by first | omega | (have := HM.out; omega))
      obtain ⟨c2, c4⟩ := HR.out.get (i := a) (by first | omega | (have := HM.out; omega))
      have hcall := HC.out.1.calls w1.drew (p (k)) (p (a))
      have hsg := HC.out.1.sign (p (k)) (p (a))
      obtain ⟨Ai, mi, di, hvi⟩ := HC.out.2 (p (k))
      obtain ⟨Aj, mj, dj, hvj⟩ := HC.out.2 (p (a))
      rw [hvi] at c3 hcall
      rw [hvj] at c4 hcall
      obtain ⟨x, ex⟩ : ∃ x : Int, (el ts (p (k))).1 = x := ⟨_, rfl⟩
      obtain ⟨y, ey⟩ : ∃ y : Int, (el ts (p (a))).1 = y := ⟨_, rfl⟩
      obtain ⟨z, ez⟩ : ∃ z : Int, cz (p (k)) (p (a)) = z := ⟨_, rfl⟩
      rw [ex] at c1 hcall
      rw [ey] at c2 hcall
      rw [ez] at hsg hcall
      have HCL := Lib.hid hcall
      have HSG := Lib.hid hsg
      clear hcall hsg ex ey ez hvi hvj
      by_cases hz : z < 0
      · have hz0 : decide (z < 0) = true := decide_eq_true hz
        go_wp2_with fail
        go_region_held3 (fun w' => (w'.cell? ⟨g, k * 2, none⟩ = some (.int .i64 x) ∧ w'.cell? ⟨g, k * 2 + 1, none⟩ = some (.slice Ai mi di)) ∧ w'.cell? ⟨g, a * 2, none⟩ = some (.int .i64 y) ∧ w'.cell? ⟨g, a * 2 + 1, none⟩ = some (.slice Aj mj dj))
          (first | exact ⟨⟨n0, n2⟩, n1, n3⟩ | exact ⟨⟨c1, c3⟩, c2, c4⟩ | fail)
          (first
            | (go_at_call 22; refine HCL.out.mono ?_; rintro e w3 ⟨rfl, b3⟩; have b3 := below_undrew b3; have n0 := (b3.cell (p := ⟨g, k * 2, none⟩) HR.out.lt.2).trans c1; have n1 := (b3.cell (p := ⟨g, a * 2, none⟩) HR.out.lt.2).trans c2; have n2 := (b3.cell (p := ⟨g, k * 2 + 1, none⟩) HR.out.lt.2).trans c3; have n3 := (b3.cell (p := ⟨g, a * 2 + 1, none⟩) HR.out.lt.2).trans c4))
        have HR3 := Lib.hid (RowS.below (W' := w3) HR.out b3)
        have G3 := Lib.hid (grownT HG.out (grownB b3 (some g)))
        clear c1 c2 c3 c4 n0 n1 n2 n3
        go_wp2_with fail
        go_roundw
        case rel => exact ⟨k + 1, j, by omega, by omega, by omega, by go_num, rfl, HR3.out, G3.out, fun _ => lo_of_lt key (HSG.out.1 hz), HB.out⟩
        case measure => simp [intOf]; omega
      · have hz0 : decide (z < 0) = false := decide_eq_false hz
        go_wp2_with fail
        go_region_held3 (fun w' => (w'.cell? ⟨g, k * 2, none⟩ = some (.int .i64 x) ∧ w'.cell? ⟨g, k * 2 + 1, none⟩ = some (.slice Ai mi di)) ∧ w'.cell? ⟨g, a * 2, none⟩ = some (.int .i64 y) ∧ w'.cell? ⟨g, a * 2 + 1, none⟩ = some (.slice Aj mj dj))
          (first | exact ⟨⟨n0, n2⟩, n1, n3⟩ | exact ⟨⟨c1, c3⟩, c2, c4⟩ | fail)
          (first
            | (go_at_call 22; refine HCL.out.mono ?_; rintro e w3 ⟨rfl, b3⟩; have b3 := below_undrew b3; have n0 := (b3.cell (p := ⟨g, k * 2, none⟩) HR.out.lt.2).trans c1; have n1 := (b3.cell (p := ⟨g, a * 2, none⟩) HR.out.lt.2).trans c2; have n2 := (b3.cell (p := ⟨g, k * 2 + 1, none⟩) HR.out.lt.2).trans c3; have n3 := (b3.cell (p := ⟨g, a * 2 + 1, none⟩) HR.out.lt.2).trans c4))
        have HR3 := Lib.hid (RowS.below (W' := w3) HR.out b3)
        have G3 := Lib.hid (grownT HG.out (grownB b3 (some g)))
        clear c1 c2 c3 c4 n0 n1 n2 n3
        go_wp2_with fail
        go_roundw
        case rel => exact ⟨i, k, by omega, by omega, by omega, rfl, rfl, HR3.out, G3.out, HA.out, fun _ => lo_of_not key (HPT.out.tag a k (Nat.le_refl _) (by have := HM.out; omega) (by omega) (by omega)) (fun h => by have := HSG.out.2 h; omega)⟩
        case measure => simp [intOf]; omega
    · obtain rfl : i = j := by omega
      have hA := HA.out
      have hB := HB.out
      have hsrt : Srt key (rot p a m i) a b := by
        have hmm := HM.out
        subst hmm
        exact one_up HPT.out ⟨i1, i3⟩ hA hB
      have hshf : Shuf p (rot p a m i) a b := (rot_shuf p (by have := HM.out; omega) i1).wide (Nat.le_refl _) i3
      have HS := Lib.hid hsrt
      have HF := Lib.hid hshf
      have hstart : rot p a m (a + 1) = p := by rw [HM.out]; exact rot_right p a (a + 1)
      have HST := Lib.hid hstart
      clear hA hB hsrt hshf hstart hr hg
      obtain ⟨i', hi'⟩ : ∃ i', i - 1 = i' := ⟨_, rfl⟩
      have e1 : (i : Int) - 1 = (i' : Int) := by omega
      have e2 : wrap64 ((i : Int) - 1) = (i' : Int) := by rw [IntWalk.wrap64_in _ (by omega)]; omega
      have hai : a ≤ i' := by have := HM.out; omega
      have hin : i' < n := by omega
      have HI := Lib.hid hi'
      clear hi'
      go_wp2
      go_loopw [13] (fun x wr => ∃ k : Nat, a ≤ k ∧ k ≤ i' ∧ x = .int .i64 k ∧ RowS wr base g n cap ts (rot p a m (k + 1)) ∧ w.grownBy wr (some g)) (fun x _ => i' - (intOf x).toNat)
      case atStart => exact ⟨a, Nat.le_refl _, hai, rfl, by rw [HST.out]; exact HR.out, HG.out⟩
      case round =>
        obtain ⟨k, k1, k2, rfl, hr, hg⟩ := hrel
        obtain ⟨w2, rfl⟩ : ∃ q' : World, q' = wr := ⟨_, rfl⟩
        by_cases hlt2 : k < i'
        · obtain ⟨l, hl⟩ : ∃ l, k + 1 = l := ⟨_, rfl⟩
          have hw1 : IntKind.i64.wrap ((k : Int) + 1) = (l : Int) := by rw [IntWalk.i64_in _ (by omega)]; omega
          have hup := rot_up p k1
          have hm3 : m = a + 1 := HM.out
          rw [← hm3, show k + 2 = l + 1 by omega, hl] at hup
          rw [hl] at hr
          have HUP := Lib.hid hup
          have q1 : (0 : Int) ≤ (k : Int) := by omega
          have q2 : (k : Int) < (n : Int) := by omega
          have q3 : (0 : Int) ≤ (l : Int) := by omega
          have q4 : (l : Int) < (n : Int) := by omega
          have hll : l ≤ i' := by omega
          have hkl : k < l := by omega
          have HL := Lib.hid hl
          obtain ⟨Q, eQ⟩ : ∃ Q, rot p a m l = Q := ⟨_, rfl⟩
          rw [eQ] at hr HUP
          clear hup hl hm3
          obtain ⟨c1, c3⟩ := hr.get (i := k) (by omega)
          obtain ⟨c2, c4⟩ := hr.get (i := l) (by omega)
          obtain ⟨f0, f2⟩ := hr.frz (k)
          obtain ⟨f1, f3⟩ := hr.frz (l)
          have hput := hr.put (k) (l)
          obtain ⟨Ai, mi, di, hvi⟩ := HC.out.2 (Q (k))
          obtain ⟨Aj, mj, dj, hvj⟩ := HC.out.2 (Q (l))
          rw [hvi] at c3 hput
          rw [hvj] at c4 hput
          obtain ⟨x, ex⟩ : ∃ x : Int, (el ts (Q (k))).1 = x := ⟨_, rfl⟩
          obtain ⟨y, ey⟩ : ∃ y : Int, (el ts (Q (l))).1 = y := ⟨_, rfl⟩
          rw [ex] at c1 hput
          rw [ey] at c2 hput
          have HPG := Lib.hid (grownT hg (grown_put4 (W := w2) (g := g) (i := k) (j := l) x y (.slice Ai mi di) (.slice Aj mj dj)))
          have HPT2 := Lib.hid hput
          have hne : ¬ k = l := by omega
          have hn1 : ¬ k * 2 = l * 2 := by omega
          have hn2 : ¬ k * 2 + 1 = l * 2 := by omega
          have hn3 : ¬ k * 2 = l * 2 + 1 := by omega
          clear hput ex ey hvi hvj
          go_wp2_with fail
          go_region
          go_wp2_with fail
          go_roundw
          case rel =>
            refine ⟨l, by omega, hll, by have := HL.out; go_num, ?_, grownT HPG.out (grownB (below_drewN (Below.refl _ _) 1) _)⟩
            rw [← HUP.out]
            exact RowS.below HPT2.out (below_drewN (Below.refl _ _) 1)
          case measure => simp [intOf]; omega
        · obtain rfl : k = i' := by omega
          have hki : k + 1 = i := by have := HI.out; omega
          rw [hki] at hr
          have HR2 := Lib.hid hr
          clear hr hki
          go_wp2
          refine bodyPost_ret (results_none rfl _ _ _) rfl ?_
          exact ⟨rfl, _, HR2.out, HS.out, HF.out, hg⟩

set_option maxRecDepth 100000 in
set_option maxHeartbeats 8000000 in
theorem merge_right_c (w : World) (base g n cap : Nat) (ts : List (Int × Value)) (p : Nat → Nat) (key : Nat → Int) (cz : Nat → Nat → Int) (a b m : Nat) (hm : b = m + 1) (hab : a + 1 < m) (hb : b ≤ n) (hn : n ≤ 64) (h : RowS w base g n cap ts p) (hp : ∀ i, i < n → p i < n) (hpt : Parts key p a m b) (hC : Cmp ts key cz ∧ Sls ts) :
    Calls Try.prog 35 #[.slice (some ⟨g, 0, none⟩) n cap, .int .i64 a, .int .i64 m, .int .i64 b, cmpV] w (MergePost w base g n cap ts p key a b) := by
  unfold MergePost cmpV
  have H0 := Lib.hid h
  have HP := Lib.hid hp
  have HPT := Lib.hid hpt
  have HC := Lib.hid hC
  clear h hp hpt hC
  obtain ⟨d, hd⟩ : ∃ d, m - a = d := ⟨_, rfl⟩
  have hm1 : (m : Int) - (a : Int) = (d : Int) := by omega
  have hm2 : wrap64 ((m : Int) - (a : Int)) = (d : Int) := by rw [IntWalk.wrap64_in _ (by omega)]; omega
  have hm3 : (b : Int) - (m : Int) = 1 := by omega
  have hm4 : wrap64 ((b : Int) - (m : Int)) = 1 := by rw [IntWalk.wrap64_in _ (by omega)]; omega
  have hd1 : ((d : Int) == 1) = false := by simp; omega
  have HM := Lib.hid hm
  clear hm hd
  go_enter Try.func35, Try.ntmps35
  go_wp2
  go_loopw [14, 15] (fun x y wr => ∃ i j : Nat, a ≤ i ∧ i ≤ j ∧ j ≤ m ∧ x = .int .i64 i ∧ y = .int .i64 j ∧ RowS wr base g n cap ts p ∧ w.grownBy wr (some g) ∧ (a < i → lo key (p (i - 1)) (p m)) ∧ (j < m → lo key (p m) (p j))) (fun x y _ => (intOf y).toNat - (intOf x).toNat)
  case atStart => exact ⟨a, m, Nat.le_refl _, by omega, Nat.le_refl _, rfl, rfl, H0.out, grownR _ _, fun h => by omega, fun h => by omega⟩
  case round =>
    obtain ⟨i, j, i1, i2, i3, rfl, rfl, hr, hg, hA, hB⟩ := hrel
    obtain ⟨w1, rfl⟩ : ∃ q' : World, q' = wr := ⟨_, rfl⟩
    have HA := Lib.hid hA
    have HB := Lib.hid hB
    have HR : Hid (RowS w1 base g n cap ts p) := Lib.hid hr
    have HG : Hid (w.grownBy w1 (some g)) := Lib.hid hg
    clear hA hB
    by_cases hlt : i < j
    · obtain ⟨k, hk⟩ : ∃ k, (i + j) / 2 = k := ⟨_, rfl⟩
      have hk1 : ((i : Int) + (j : Int)) / 2 = (k : Int) := by omega
      have hki : i ≤ k ∧ k < j := by omega
      have q1 : (0 : Int) ≤ (k : Int) := by omega
      have q2 : (k : Int) < (n : Int) := by have := HM.out; omega
      have q3 : (0 : Int) ≤ (m : Int) := by omega
      have q4 : (m : Int) < (n : Int) := by have := HM.out; omega
      clear hr hg hk
      obtain ⟨c1, c3⟩ := HR.out.get (i := m) (by first | omega | (have := HM.out; omega))
      obtain ⟨c2, c4⟩ := HR.out.get (i := k) (by first | omega | (have := HM.out; omega))
      have hcall := HC.out.1.calls w1.drew (p (m)) (p (k))
      have hsg := HC.out.1.sign (p (m)) (p (k))
      obtain ⟨Ai, mi, di, hvi⟩ := HC.out.2 (p (m))
      obtain ⟨Aj, mj, dj, hvj⟩ := HC.out.2 (p (k))
      rw [hvi] at c3 hcall
      rw [hvj] at c4 hcall
      obtain ⟨x, ex⟩ : ∃ x : Int, (el ts (p (m))).1 = x := ⟨_, rfl⟩
      obtain ⟨y, ey⟩ : ∃ y : Int, (el ts (p (k))).1 = y := ⟨_, rfl⟩
      obtain ⟨z, ez⟩ : ∃ z : Int, cz (p (m)) (p (k)) = z := ⟨_, rfl⟩
      rw [ex] at c1 hcall
      rw [ey] at c2 hcall
      rw [ez] at hsg hcall
      have HCL := Lib.hid hcall
      have HSG := Lib.hid hsg
      clear hcall hsg ex ey ez hvi hvj
      by_cases hz : z < 0
      · have hz0 : decide (z < 0) = true := decide_eq_true hz
        go_wp2_with fail
        go_region_held3 (fun w' => (w'.cell? ⟨g, m * 2, none⟩ = some (.int .i64 x) ∧ w'.cell? ⟨g, m * 2 + 1, none⟩ = some (.slice Ai mi di)) ∧ w'.cell? ⟨g, k * 2, none⟩ = some (.int .i64 y) ∧ w'.cell? ⟨g, k * 2 + 1, none⟩ = some (.slice Aj mj dj))
          (first | exact ⟨⟨n0, n2⟩, n1, n3⟩ | exact ⟨⟨c1, c3⟩, c2, c4⟩ | fail)
          (first
            | (go_at_call 22; refine HCL.out.mono ?_; rintro e w3 ⟨rfl, b3⟩; have b3 := below_undrew b3; have n0 := (b3.cell (p := ⟨g, m * 2, none⟩) HR.out.lt.2).trans c1; have n1 := (b3.cell (p := ⟨g, k * 2, none⟩) HR.out.lt.2).trans c2; have n2 := (b3.cell (p := ⟨g, m * 2 + 1, none⟩) HR.out.lt.2).trans c3; have n3 := (b3.cell (p := ⟨g, k * 2 + 1, none⟩) HR.out.lt.2).trans c4))
        have HR3 := Lib.hid (RowS.below (W' := w3) HR.out b3)
        have G3 := Lib.hid (grownT HG.out (grownB b3 (some g)))
        clear c1 c2 c3 c4 n0 n1 n2 n3
        go_wp2_with fail
        go_roundw
        case rel => exact ⟨i, k, by omega, by omega, by omega, rfl, rfl, HR3.out, G3.out, HA.out, fun _ => lo_of_lt key (HSG.out.1 hz)⟩
        case measure => simp [intOf]; omega
      · have hz0 : decide (z < 0) = false := decide_eq_false hz
        go_wp2_with fail
        go_region_held3 (fun w' => (w'.cell? ⟨g, m * 2, none⟩ = some (.int .i64 x) ∧ w'.cell? ⟨g, m * 2 + 1, none⟩ = some (.slice Ai mi di)) ∧ w'.cell? ⟨g, k * 2, none⟩ = some (.int .i64 y) ∧ w'.cell? ⟨g, k * 2 + 1, none⟩ = some (.slice Aj mj dj))
          (first | exact ⟨⟨n0, n2⟩, n1, n3⟩ | exact ⟨⟨c1, c3⟩, c2, c4⟩ | fail)
          (first
            | (go_at_call 22; refine HCL.out.mono ?_; rintro e w3 ⟨rfl, b3⟩; have b3 := below_undrew b3; have n0 := (b3.cell (p := ⟨g, m * 2, none⟩) HR.out.lt.2).trans c1; have n1 := (b3.cell (p := ⟨g, k * 2, none⟩) HR.out.lt.2).trans c2; have n2 := (b3.cell (p := ⟨g, m * 2 + 1, none⟩) HR.out.lt.2).trans c3; have n3 := (b3.cell (p := ⟨g, k * 2 + 1, none⟩) HR.out.lt.2).trans c4))
        have HR3 := Lib.hid (RowS.below (W' := w3) HR.out b3)
        have G3 := Lib.hid (grownT HG.out (grownB b3 (some g)))
        clear c1 c2 c3 c4 n0 n1 n2 n3
        go_wp2_with fail
        go_roundw
        case rel => exact ⟨k + 1, j, by omega, by omega, by omega, by go_num, rfl, HR3.out, G3.out, fun _ => lo_of_not key (HPT.out.tag k m (by omega) (by omega) (Nat.le_refl _) (by have := HM.out; omega)) (fun h => by have := HSG.out.2 h; omega), HB.out⟩
        case measure => simp [intOf]; omega
    · obtain rfl : i = j := by omega
      have hA := HA.out
      have hB := HB.out
      have hsrt : Srt key (rot p i m b) a b := by
        have hmm := HM.out
        subst hmm
        exact one_down HPT.out ⟨i1, i3⟩ hA hB
      have hshf : Shuf p (rot p i m b) a b := (rot_shuf p i3 (by have := HM.out; omega)).wide i1 (Nat.le_refl _)
      have HS := Lib.hid hsrt
      have HF := Lib.hid hshf
      have hstart : rot p m m b = p := rot_left p m b
      have HST := Lib.hid hstart
      have hmn : m < n := by have := HM.out; omega
      clear hA hB hsrt hshf hstart hr hg
      go_wp2
      go_loopw [17] (fun x wr => ∃ k : Nat, i ≤ k ∧ k ≤ m ∧ x = .int .i64 k ∧ RowS wr base g n cap ts (rot p k m b) ∧ w.grownBy wr (some g)) (fun x _ => (intOf x).toNat)
      case atStart => exact ⟨m, i3, Nat.le_refl _, rfl, by rw [HST.out]; exact HR.out, HG.out⟩
      case round =>
        obtain ⟨k, k1, k2, rfl, hr, hg⟩ := hrel
        obtain ⟨w2, rfl⟩ : ∃ q' : World, q' = wr := ⟨_, rfl⟩
        by_cases hlt2 : i < k
        · obtain ⟨l, hl⟩ : ∃ l, k - 1 = l := ⟨_, rfl⟩
          have hw1 : IntKind.i64.wrap ((k : Int) - 1) = (l : Int) := by rw [IntWalk.i64_in _ (by omega)]; omega
          have hw2 : wrap64 ((k : Int) - 1) = (l : Int) := by rw [IntWalk.wrap64_in _ (by omega)]; omega
          have hup := rot_down p (k := l) (m := m) (by omega)
          rw [← HM.out, show l + 1 = k by omega] at hup
          have HUP := Lib.hid hup
          have q1 : (0 : Int) ≤ (k : Int) := by omega
          have q2 : (k : Int) < (n : Int) := by omega
          have q3 : (0 : Int) ≤ (l : Int) := by omega
          have q4 : (l : Int) < (n : Int) := by omega
          have hll : i ≤ l := by omega
          have hkl : l < k := by omega
          have hw3 : (k : Int) - 1 = (l : Int) := by omega
          obtain ⟨Q, eQ⟩ : ∃ Q, rot p k m b = Q := ⟨_, rfl⟩
          rw [eQ] at hr HUP
          clear hup hl
          obtain ⟨c1, c3⟩ := hr.get (i := k) (by omega)
          obtain ⟨c2, c4⟩ := hr.get (i := l) (by omega)
          obtain ⟨f0, f2⟩ := hr.frz (k)
          obtain ⟨f1, f3⟩ := hr.frz (l)
          have hput := hr.put (k) (l)
          obtain ⟨Ai, mi, di, hvi⟩ := HC.out.2 (Q (k))
          obtain ⟨Aj, mj, dj, hvj⟩ := HC.out.2 (Q (l))
          rw [hvi] at c3 hput
          rw [hvj] at c4 hput
          obtain ⟨x, ex⟩ : ∃ x : Int, (el ts (Q (k))).1 = x := ⟨_, rfl⟩
          obtain ⟨y, ey⟩ : ∃ y : Int, (el ts (Q (l))).1 = y := ⟨_, rfl⟩
          rw [ex] at c1 hput
          rw [ey] at c2 hput
          have HPG := Lib.hid (grownT hg (grown_put4 (W := w2) (g := g) (i := k) (j := l) x y (.slice Ai mi di) (.slice Aj mj dj)))
          have HPT2 := Lib.hid hput
          have hne : ¬ k = l := by omega
          have hn1 : ¬ k * 2 = l * 2 := by omega
          have hn2 : ¬ k * 2 + 1 = l * 2 := by omega
          have hn3 : ¬ k * 2 = l * 2 + 1 := by omega
          clear hput ex ey hvi hvj
          go_wp2_with fail
          go_region
          go_wp2_with fail
          go_roundw
          case rel =>
            refine ⟨l, hll, by omega, rfl, ?_, grownT HPG.out (grownB (below_drewN (Below.refl _ _) 1) _)⟩
            rw [← HUP.out]
            exact RowS.below HPT2.out (below_drewN (Below.refl _ _) 1)
          case measure => simp [intOf]; omega
        · obtain rfl : k = i := by omega
          have HR2 := Lib.hid hr
          clear hr
          go_wp2
          refine bodyPost_ret (results_none rfl _ _ _) rfl ?_
          exact ⟨rfl, _, HR2.out, HS.out, HF.out, hg⟩

end Go.Proofs.Ytkmfjadlobpbkaa
