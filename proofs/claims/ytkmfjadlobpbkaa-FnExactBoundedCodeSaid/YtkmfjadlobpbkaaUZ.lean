/-
  Contracts: a row of bunches of the call's own: places exchanged, ranges exchanged, parts rotated.
  Conditions: at most 64 places.
-/
import Derived.Test.YtkmfjadlobpbkaaSY
import Derived.Test.YtkmfjadlobpbkaaMI
import Derived.Test.YtkmfjadlobpbkaaMA
import Derived.Deep.RegionHeld3
namespace Go.Proofs.Ytkmfjadlobpbkaa
open Go.RowKit

/-- the bunch that a place names -/
def el (ts : List (Int × Value)) (v : Nat) : Int × Value := ts.getD v (0, .slice none 0 0)
def arr (ts : List (Int × Value)) (n : Nat) (p : Nat → Nat) : List (Int × Value) := (List.range n).map fun i => el ts (p i)
theorem arr_len (ts : List (Int × Value)) (n : Nat) (p : Nat → Nat) : (arr ts n p).length = n := by simp [arr]
/-- all that goes with a weight is a slice -/
def Sls (ts : List (Int × Value)) : Prop := ∀ v, ∃ A k c, (el ts v).2 = .slice A k c
theorem sls_of {ts : List (Int × Value)} (h : ∀ t ∈ ts, ∃ A k c, t.2 = .slice A k c) : Sls ts := by
  intro v
  unfold el
  rw [List.getD_eq_getElem?_getD]
  cases hv : ts[v]? with
  | none => exact ⟨_, _, _, rfl⟩
  | some t => exact h t (List.mem_of_getElem? hv)
theorem fl2_set : ∀ (ts : List (Int × Value)) (i : Nat) (t : Int × Value), ((fl2 ts).set (i * 2) (.int .i64 t.1)).set (i * 2 + 1) t.2 = fl2 (ts.set i t)
  | [], i, t => by simp [fl2]
  | a :: ts, 0, t => by simp [fl2]
  | a :: ts, i + 1, t => by
    have h := fl2_set ts i t
    show ((Value.int .i64 a.1 :: a.2 :: fl2 ts).set _ _).set _ _ = Value.int .i64 a.1 :: a.2 :: fl2 (ts.set i t)
    rw [show (i + 1) * 2 = i * 2 + 1 + 1 by omega]
    simp only [List.set_cons_succ]
    rw [h]
theorem arr_put (ts : List (Int × Value)) (n : Nat) (p : Nat → Nat) (i j : Nat) : ((arr ts n p).set i (el ts (p j))).set j (el ts (p i)) = arr ts n (swp p i j) := by
  apply List.ext_getElem (by simp [arr])
  intro k k1 k2
  rw [List.getElem_set]
  by_cases hkj : j = k
  · rw [if_pos hkj]
    subst hkj
    simp only [arr, List.getElem_map, List.getElem_range, swp]
    by_cases hij : j = i
    · subst hij; simp
    · simp [hij]
  · rw [if_neg hkj, List.getElem_set]
    by_cases hki : i = k
    · rw [if_pos hki]
      subst hki
      simp [arr, swp]
    · rw [if_neg hki]
      have q1 : ¬ k = i := fun e => hki e.symm
      have q2 : ¬ k = j := fun e => hkj e.symm
      simp [arr, swp, q1, q2]
def RowS (W : World) (base g n cap : Nat) (ts : List (Int × Value)) (p : Nat → Nat) : Prop := W.ownsRow base 48 2 (.slice (some ⟨g, 0, none⟩) n cap) n (fl2 (arr ts n p))
theorem RowS.get {W : World} {base g n cap : Nat} {ts : List (Int × Value)} {p : Nat → Nat} (h : RowS W base g n cap ts p) {i : Nat} (hi : i < n) : W.cell? ⟨g, i * 2, none⟩ = some (.int .i64 (el ts (p i)).1) ∧ W.cell? ⟨g, i * 2 + 1, none⟩ = some (el ts (p i)).2 := by
  have h2 := fl2_at (arr ts n p) i (by rw [arr_len]; exact hi)
  have e : (arr ts n p)[i]'(by rw [arr_len]; exact hi) = el ts (p i) := by simp [arr]
  rw [e] at h2
  have k0 := World.ownsRow.cellAt h (i * 2) (by omega)
  have k1 := World.ownsRow.cellAt h (i * 2 + 1) (by omega)
  exact ⟨k0.trans h2.1, k1.trans h2.2⟩
theorem RowS.frz {W : World} {base g n cap : Nat} {ts : List (Int × Value)} {p : Nat → Nat} (h : RowS W base g n cap ts p) (i : Nat) : W.frozen? ⟨g, i * 2, none⟩ = false ∧ W.frozen? ⟨g, i * 2 + 1, none⟩ = false := ⟨World.ownsRow.frozenAt h (i * 2), World.ownsRow.frozenAt h (i * 2 + 1)⟩
/-- two bunches exchanged: four cells -/
def put4 (W : World) (g i j : Nat) (x y : Int) (u v : Value) : World := (((W.setCell ⟨g, i * 2, none⟩ (.int .i64 y)).setCell ⟨g, i * 2 + 1, none⟩ v).setCell ⟨g, j * 2, none⟩ (.int .i64 x)).setCell ⟨g, j * 2 + 1, none⟩ u
theorem RowS.put {W : World} {base g n cap : Nat} {ts : List (Int × Value)} {p : Nat → Nat} (h : RowS W base g n cap ts p) (i j : Nat) :
    RowS (put4 W g i j (el ts (p i)).1 (el ts (p j)).1 (el ts (p i)).2 (el ts (p j)).2) base g n cap ts (swp p i j) := by
  have h1 := (World.ownsRow.stored h (i * 2) (.int .i64 (el ts (p j)).1)).1
  have h2 := (World.ownsRow.stored h1 (i * 2 + 1) (el ts (p j)).2).1
  rw [fl2_set] at h2
  have h3 := (World.ownsRow.stored h2 (j * 2) (.int .i64 (el ts (p i)).1)).1
  have h4 := (World.ownsRow.stored h3 (j * 2 + 1) (el ts (p i)).2).1
  rw [fl2_set, arr_put] at h4
  exact h4
theorem RowS.lt {W : World} {base g n cap : Nat} {ts : List (Int × Value)} {p : Nat → Nat} (h : RowS W base g n cap ts p) : base ≤ g ∧ g < W.heap.size := World.ownsRow.lt h g rfl
theorem grownT {a b c : World} {row : Option Nat} (h : a.grownBy b row) (k : b.grownBy c row) : a.grownBy c row :=
  ⟨k.os.trans h.os, k.tape.trans h.tape, k.output.trans h.output, Nat.le_trans h.size k.size, fun i hi hn => (k.block i (Nat.lt_of_lt_of_le hi h.size) hn).trans (h.block i hi hn)⟩
theorem grown_put4 {W : World} {g i j : Nat} (x y : Int) (u v : Value) : W.grownBy (put4 W g i j x y u v) (some g) :=
  grownT (grownT (grownT (grown_setAt W g _ _) (grown_setAt _ g _ _)) (grown_setAt _ g _ _)) (grown_setAt _ g _ _)
theorem grownR (w : World) (row : Option Nat) : w.grownBy w row := ⟨rfl, rfl, rfl, Nat.le_refl _, fun _ _ _ => rfl⟩
theorem grownB {w w' : World} (h : Below w.heap.size w w') (row : Option Nat) : w.grownBy w' row := ⟨h.os, h.tape, h.output, h.size, fun k hk _ => h.block k hk⟩
theorem RowS.below {W W' : World} {base g n cap : Nat} {ts : List (Int × Value)} {p : Nat → Nat} (h : RowS W base g n cap ts p) (hb : Below W.heap.size W W') : RowS W' base g n cap ts p := own_below h hb (Nat.le_refl _)
theorem RowS.cast {W : World} {base g n cap : Nat} {ts : List (Int × Value)} {p q : Nat → Nat} (h : RowS W base g n cap ts p) (e : q = p) : RowS W base g n cap ts q := by rw [e]; exact h


set_option maxRecDepth 100000 in
set_option maxHeartbeats 4000000 in
theorem swapRange_c (w : World) (base g n cap : Nat) (ts : List (Int × Value)) (p : Nat → Nat) (a b k : Nat) (V : Value) (hS : Sls ts) (hd : a + k ≤ b) (hb : b + k ≤ n) (hn : n ≤ 64) (h : RowS w base g n cap ts p) :
    Calls Try.prog 40 #[.slice (some ⟨g, 0, none⟩) n cap, .int .i64 a, .int .i64 b, .int .i64 k, V] w fun e w' => e = .returned (.tuple #[]) ∧ RowS w' base g n cap ts (swpR p a b k) ∧ w.grownBy w' (some g) := by
  have H0 := Lib.hid h
  have HSL := Lib.hid hS
  clear h hS
  go_enter Try.func40, Try.ntmps40
  go_wp2
  go_loopw [10] (fun i wr => ∃ t : Nat, t ≤ k ∧ i = .int .i64 t ∧ RowS wr base g n cap ts (swpR p a b t) ∧ w.grownBy wr (some g)) (fun i _ => k - (intOf i).toNat)
  case atStart => exact ⟨0, Nat.zero_le _, rfl, by rw [swpR_zero]; exact H0.out, grownR _ _⟩
  case round =>
    obtain ⟨t, ht, rfl, hr, hg⟩ := hrel
    by_cases hlt : t < k
    · obtain ⟨i, hi⟩ : ∃ i, a + t = i := ⟨_, rfl⟩
      obtain ⟨j, hj⟩ : ∃ j, b + t = j := ⟨_, rfl⟩
      have hin : i < n := by omega
      have hjn : j < n := by omega
      obtain ⟨c1, c3⟩ := hr.get hin
      obtain ⟨c2, c4⟩ := hr.get hjn
      obtain ⟨f1, f3⟩ := hr.frz i
      obtain ⟨f2, f4⟩ := hr.frz j
      have hw1 : IntKind.i64.wrap ((a : Int) + (t : Int)) = (i : Int) := by rw [IntWalk.i64_in _ (by omega)]; omega
      have hw2 : IntKind.i64.wrap ((b : Int) + (t : Int)) = (j : Int) := by rw [IntWalk.i64_in _ (by omega)]; omega
      have q1 : (0 : Int) ≤ (i : Int) := by omega
      have q2 : (i : Int) < (n : Int) := by omega
      have q3 : (0 : Int) ≤ (j : Int) := by omega
      have q4 : (j : Int) < (n : Int) := by omega
      have hput := hr.put i j
      have hone := swpR_one p (a := a) (b := b) (k := t) (by omega)
      rw [hi, hj] at hone
      rw [hone] at hput
      obtain ⟨Ai, mi, di, hvi⟩ := HSL.out (swpR p a b t i)
      obtain ⟨Aj, mj, dj, hvj⟩ := HSL.out (swpR p a b t j)
      rw [hvi] at c3 hput
      rw [hvj] at c4 hput
      obtain ⟨x, ex⟩ : ∃ x : Int, (el ts (swpR p a b t i)).1 = x := ⟨_, rfl⟩
      obtain ⟨y, ey⟩ : ∃ y : Int, (el ts (swpR p a b t j)).1 = y := ⟨_, rfl⟩
      rw [ex] at c1 hput
      rw [ey] at c2 hput
      have HI := Lib.hid hi
      have HJ := Lib.hid hj
      have HP := Lib.hid hput
      have hne : ¬ i = j := by omega
      have hn1 : ¬ i * 2 = j * 2 := by omega
      have hn2 : ¬ i * 2 + 1 = j * 2 := by omega
      have hn3 : ¬ i * 2 = j * 2 + 1 := by omega
      have HG := Lib.hid hg
      clear hi hj hput hone hr ex ey hg hvi hvj
      go_wp2_with fail
      go_region
      have HX := Lib.hid (grownT HG.out (grown_put4 (i := i) (j := j) (W := wr) x y (.slice Ai mi di) (.slice Aj mj dj)))
      go_wp2_with fail
      go_roundw
      case rel => exact ⟨t + 1, hlt, by go_num, RowS.below HP.out (below_drewN (Below.refl _ _) 1), grownT HX.out (grownB (below_drewN (Below.refl _ _) 1) _)⟩
      case measure => simp [intOf]; omega
    · obtain rfl : t = k := by omega
      have HR := Lib.hid hr
      clear hr
      go_wp2
      go_end0
      exact ⟨rfl, HR.out, hg⟩


set_option maxRecDepth 100000 in
set_option maxHeartbeats 4000000 in
theorem rotate_c (w : World) (base g n cap : Nat) (ts : List (Int × Value)) (p : Nat → Nat) (a m b : Nat) (V : Value) (hS : Sls ts) (ham : a < m) (hmb : m < b) (hb : b ≤ n) (hn : n ≤ 64) (h : RowS w base g n cap ts p) :
    Calls Try.prog 39 #[.slice (some ⟨g, 0, none⟩) n cap, .int .i64 a, .int .i64 m, .int .i64 b, V] w fun e w' => e = .returned (.tuple #[]) ∧ RowS w' base g n cap ts (rot p a m b) ∧ w.grownBy w' (some g) := by
  have H0 := Lib.hid h
  have HSL := Lib.hid hS
  clear h hS
  obtain ⟨i0, hi0⟩ : ∃ i0, m - a = i0 := ⟨_, rfl⟩
  obtain ⟨j0, hj0⟩ : ∃ j0, b - m = j0 := ⟨_, rfl⟩
  have hw1 : IntKind.i64.wrap ((m : Int) - (a : Int)) = (i0 : Int) := by rw [IntWalk.i64_in _ (by omega)]; omega
  have hw2 : IntKind.i64.wrap ((b : Int) - (m : Int)) = (j0 : Int) := by rw [IntWalk.i64_in _ (by omega)]; omega
  have hw3 : wrap64 ((m : Int) - (a : Int)) = (i0 : Int) := by rw [IntWalk.wrap64_in _ (by omega)]; omega
  have hw4 : wrap64 ((b : Int) - (m : Int)) = (j0 : Int) := by rw [IntWalk.wrap64_in _ (by omega)]; omega
  have hw5 : (m : Int) - (a : Int) = (i0 : Int) := by omega
  have hw6 : (b : Int) - (m : Int) = (j0 : Int) := by omega
  have hi1 : 1 ≤ i0 := by omega
  have hj1 : 1 ≤ j0 := by omega
  have him : i0 ≤ m := by omega
  have hjn : m + j0 ≤ n := by omega
  have hrot : rot p (m - i0) m (m + j0) = rot p a m b := by rw [show m - i0 = a by omega, show m + j0 = b by omega]
  have HROT := Lib.hid hrot
  clear hrot hi0 hj0
  go_enter Try.func39, Try.ntmps39
  go_wp2
  clear hw1 hw2 hw3 hw4 hw5 hw6
  go_loopw [10, 11] (fun x y wr => ∃ (i j : Nat) (q : Nat → Nat), 1 ≤ i ∧ 1 ≤ j ∧ i ≤ m ∧ m + j ≤ n ∧ x = .int .i64 i ∧ y = .int .i64 j ∧ RowS wr base g n cap ts q ∧ rot q (m - i) m (m + j) = rot p a m b ∧ w.grownBy wr (some g)) (fun x y _ => (intOf x).toNat + (intOf y).toNat)
  case atStart => exact ⟨i0, j0, p, hi1, hj1, him, hjn, rfl, rfl, H0.out, HROT.out, grownR _ _⟩
  case round =>
    obtain ⟨i, j, q, i1, j1, im, jn, rfl, rfl, hr, hq, hg⟩ := hrel
    have HR := Lib.hid hr
    have HQ := Lib.hid hq
    have HG := Lib.hid hg
    clear hr hq hg
    obtain ⟨s, hs⟩ : ∃ s, m - i = s := ⟨_, rfl⟩
    have hs2 : (m : Int) - (i : Int) = (s : Int) := by omega
    have hs3 : wrap64 ((m : Int) - (i : Int)) = (s : Int) := by rw [IntWalk.wrap64_in _ (by omega)]; omega
    rw [hs] at HQ
    have HS := Lib.hid hs
    by_cases hij : i = j
    · subst hij
      have hC := Lib.hid (swapRange_c wr base g n cap ts q s m i V HSL.out (by omega) (by omega) hn HR.out)
      have he := rot_even q (m := m) (i := i) im
      rw [hs, HQ.out] at he
      have HE := Lib.hid he
      have hb1 : ((i : Int) != (i : Int)) = false := by simp
      clear he hs
      go_wp2_with (go_at_call 40; refine hC.out.mono ?_; rintro e w2 ⟨rfl, h2, g2⟩)
      go_end0
      exact ⟨rfl, h2.cast HE.out.symm, grownT HG.out g2⟩
    · have hb1 : ((i : Int) != (j : Int)) = true := by simp; omega
      by_cases hlt : j < i
      · have hC := Lib.hid (swapRange_c wr base g n cap ts q s m j V HSL.out (by omega) (by omega) hn HR.out)
        have he := rot_more_i q im hlt
        rw [hs, HQ.out] at he
        obtain ⟨d, hd⟩ : ∃ d, i - j = d := ⟨_, rfl⟩
        rw [hd] at he
        have HE := Lib.hid he
        have hd2 : (i : Int) - (j : Int) = (d : Int) := by omega
        have hd3 : wrap64 ((i : Int) - (j : Int)) = (d : Int) := by rw [IntWalk.wrap64_in _ (by omega)]; omega
        have hd4 : 1 ≤ d ∧ d ≤ m ∧ d + j = i := by omega
        clear he hs hd
        go_wp2_with (go_at_call 40; refine hC.out.mono ?_; rintro e w2 ⟨rfl, h2, g2⟩)
        go_roundw
        case rel => exact ⟨d, j, _, hd4.1, j1, hd4.2.1, jn, rfl, rfl, h2, HE.out, grownT HG.out g2⟩
        case measure => simp [intOf]; omega
      · have hC := Lib.hid (swapRange_c wr base g n cap ts q s (m + j - i) i V HSL.out (by omega) (by omega) hn HR.out)
        have he := rot_more_j q im (show i < j by omega)
        rw [hs, HQ.out] at he
        obtain ⟨d, hd⟩ : ∃ d, j - i = d := ⟨_, rfl⟩
        obtain ⟨s2, hs5⟩ : ∃ s2, m + j - i = s2 := ⟨_, rfl⟩
        rw [hd, hs5] at he
        rw [hs5] at hC
        have HE := Lib.hid he
        have hd2 : (j : Int) - (i : Int) = (d : Int) := by omega
        have hd3 : wrap64 ((j : Int) - (i : Int)) = (d : Int) := by rw [IntWalk.wrap64_in _ (by omega)]; omega
        have hd4 : 1 ≤ d ∧ m + d ≤ n ∧ d + i = j := by omega
        have hs6 : (m : Int) + (j : Int) - (i : Int) = (s2 : Int) := by omega
        have hs7 : wrap64 ((m : Int) + (j : Int) - (i : Int)) = (s2 : Int) := by rw [IntWalk.wrap64_in _ (by omega)]; omega
        clear he hs hd hs5
        go_wp2_with (go_at_call 40; refine hC.out.mono ?_; rintro e w2 ⟨rfl, h2, g2⟩)
        go_roundw
        case rel => exact ⟨i, d, _, i1, hd4.1, im, hd4.2.1, rfl, rfl, h2, by rw [HS.out]; exact HE.out, grownT HG.out g2⟩
        case measure => simp [intOf]; omega

end Go.Proofs.Ytkmfjadlobpbkaa
