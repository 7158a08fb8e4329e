/-
  Contracts: two sorted parts of a row of the call's own, merged in place: the halves.
  Conditions: at most 64 places.
-/
import Derived.Test.YtkmfjadlobpbkaaUM
namespace Go.Proofs.Ytkmfjadlobpbkaa
open Go.RowKit

theorem rot_l (p : Nat → Nat) {s m e : Nat} (h : s = m) : rot p s m e = p := by rw [h]; exact rot_left p m e
theorem rot_r (p : Nat → Nat) {s m e : Nat} (h : e = m) : rot p s m e = p := by rw [h]; exact rot_right p s m
theorem srt_l {key : Nat → Int} {p : Nat → Nat} {a m b : Nat} (h : Parts key p a m b) (e : m = b) : Srt key p a b := by subst e; exact h.l
theorem srt_r {key : Nat → Int} {p : Nat → Nat} {a m b : Nat} (h : Parts key p a m b) (e : m = a) : Srt key p a b := by subst e; exact h.r
theorem sub_cast {a b d : Nat} (h : b + d = a) (hd : d ≤ 1000000) : (a : Int) - (b : Int) = (d : Int) ∧ wrap64 ((a : Int) - (b : Int)) = (d : Int) := by
  have h1 : (a : Int) - (b : Int) = (d : Int) := by omega
  exact ⟨h1, by rw [h1, IntWalk.wrap64_in _ (by omega)]⟩
theorem add_cast {a b d : Nat} (h : a + b = d) (hd : d ≤ 1000000) : (a : Int) + (b : Int) = (d : Int) ∧ wrap64 ((a : Int) + (b : Int)) = (d : Int) := by
  have h1 : (a : Int) + (b : Int) = (d : Int) := by omega
  exact ⟨h1, by rw [h1, IntWalk.wrap64_in _ (by omega)]⟩
theorem half_cast {a b d : Nat} (h : (a + b) / 2 = d) : ((a : Int) + (b : Int)) / 2 = (d : Int) := by omega
theorem ne_one {d : Nat} (h : d ≠ 1) : ((d : Int) == 1) = false := by simp; omega
theorem s0_ex {a m b mid : Nat} (h : mid < m) (h2 : m ≤ b) (h3 : a + b ≤ 2 * mid + 1) (_h4 : b ≤ 64) (h5 : m ≤ 64) : ∃ s0, b + s0 = mid + m ∧ s0 ≤ 1000000 := ⟨mid + m - b, by omega⟩
theorem cutE {mid m s e : Nat} (h : mid + m - s = e) (h2 : s ≤ m) : e + s = mid + m := by omega
theorem wrap_sub {a b d : Nat} (h : b + d = a) (hd : d ≤ 1000000) : IntKind.i64.wrap ((a : Int) - (b : Int)) = (d : Int) := by
  rw [show (a : Int) - (b : Int) = (d : Int) by omega, IntWalk.i64_in _ (by omega)]

set_option maxRecDepth 100000 in
set_option maxHeartbeats 40000000 in
theorem merge_main_c (w : World) (base g n cap : Nat) (ts : List (Int × Value)) (p : Nat → Nat) (key : Nat → Int) (cz : Nat → Nat → Int) (a m b : Nat) (ham : a + 1 < m) (hmb : m + 1 < b) (hb : b ≤ n) (hn : n ≤ 64) (h : RowS w base g n cap ts p) (hp : ∀ i, i < n → p i < n) (hpt : Parts key p a m b) (hC : Cmp ts key cz ∧ Sls ts)
    (ih : ∀ (w : World) (p : Nat → Nat) (a' m' b' : Nat), b' - a' < b - a → a' < m' → m' < b' → b' ≤ n → RowS w base g n cap ts p → (∀ i, i < n → p i < n) → Parts key p a' m' b' → Cmp ts key cz ∧ Sls ts → Calls Try.prog 35 #[.slice (some ⟨g, 0, none⟩) n cap, .int .i64 a', .int .i64 m', .int .i64 b', cmpV] w (MergePost w base g n cap ts p key a' b')) :
    Calls Try.prog 35 #[.slice (some ⟨g, 0, none⟩) n cap, .int .i64 a, .int .i64 m, .int .i64 b, cmpV] w (MergePost w base g n cap ts p key a b) := by
  unfold MergePost cmpV at *
  have IH := Lib.hid ih
  have H0 := Lib.hid h
  have HP := Lib.hid hp
  have HPT := Lib.hid hpt
  have HC := Lib.hid hC
  clear h hp hpt hC ih
  obtain ⟨d1, hd1⟩ : ∃ d, a + d = m ∧ d ≤ 1000000 ∧ d ≠ 1 := ⟨m - a, by omega⟩
  obtain ⟨d2, hd2⟩ : ∃ d, m + d = b ∧ d ≤ 1000000 ∧ d ≠ 1 := ⟨b - m, by omega⟩
  obtain ⟨mid, hmid, hmb2⟩ : ∃ mid, (a + b) / 2 = mid ∧ 2 * mid ≤ a + b ∧ a + b ≤ 2 * mid + 1 := ⟨(a + b) / 2, rfl, by omega⟩
  obtain ⟨n2, hn2⟩ : ∃ n2, mid + m = n2 ∧ n2 ≤ 1000000 := ⟨mid + m, rfl, by omega⟩
  obtain ⟨n1, hn1⟩ : ∃ n1, 1 + n1 = n2 ∧ n1 ≤ 1000000 := ⟨n2 - 1, by omega⟩
  have hmid1 := half_cast hmid
  have hm1 := (sub_cast hd1.1 hd1.2.1).1
  have hm3 := (sub_cast hd2.1 hd2.2.1).1
  have hm5 := (add_cast hn2.1 hn2.2).1
  have hdd1 := ne_one hd1.2.2
  have hdd2 := ne_one hd2.2.2
  have hn3 := hn2.1
  have hn4 : n1 + 1 = mid + m := by rw [hn2.1, ← hn1.1, Nat.add_comm]
  have HMB2 := Lib.hid hmb2
  have HN3 := Lib.hid hn3
  have HN4 := Lib.hid hn4
  clear hd1 hd2 hmid hn1 hn2 hmb2 hn4
  by_cases hcase : mid < m
  · obtain ⟨s0, hs0, hs4⟩ := s0_ex hcase (Nat.le_of_lt (Nat.lt_of_succ_lt hmb)) HMB2.out.2 (show b ≤ 64 by exact Nat.le_trans hb hn) (show m ≤ 64 by exact Nat.le_trans (Nat.le_of_lt (Nat.lt_of_succ_lt hmb)) (Nat.le_trans hb hn))
    rw [hn3] at hs0
    have hs1 := (sub_cast hs0 hs4).1
    have hs3 : s0 + b = mid + m := by rw [hn3, ← hs0, Nat.add_comm]
    have hbm : decide (mid < m) = true := decide_eq_true hcase
    have HCS := Lib.hid hcase
    have HS3 := Lib.hid hs3
    clear hs0 hs3 hn3 hs4
    go_enter Try.func35, Try.ntmps35
    clear hcase
    go_wp2
    clear hm1 hm3 hm5 hdd1 hdd2 hmid1 hbm hs1
    have hmb2 := HMB2.out
    have hn3 := HN3.out
    have hn4 := HN4.out
    have hcs := HCS.out
    have hs3 := HS3.out
    go_loopw [20, 21] (fun x y wr => ∃ s r : Nat, s0 ≤ s ∧ s ≤ r ∧ r ≤ mid ∧ x = .int .i64 s ∧ y = .int .i64 r ∧ RowS wr base g n cap ts p ∧ w.grownBy wr (some g) ∧ (s0 < s → lo key (p (s - 1)) (p (mid + m - 1 - (s - 1)))) ∧ (r < mid → lo key (p (mid + m - 1 - r)) (p r))) (fun x y _ => (intOf y).toNat - (intOf x).toNat)
    case atStart => exact ⟨s0, mid, Nat.le_refl _, by omega, Nat.le_refl _, rfl, rfl, H0.out, grownR _ _, fun h => by omega, fun h => by omega⟩
    case round =>
      obtain ⟨s, r, i1, i2, i3, rfl, rfl, hr, hg, hA, hB⟩ := hrel
      obtain ⟨w1, rfl⟩ : ∃ q' : World, q' = wr := ⟨_, rfl⟩
      have HA := Lib.hid hA
      have HB := Lib.hid hB
      have HR : Hid (RowS w1 base g n cap ts p) := Lib.hid hr
      have HG : Hid (w.grownBy w1 (some g)) := Lib.hid hg
      clear hA hB
      by_cases hlt : s < r
      · obtain ⟨k, hk⟩ : ∃ k, (s + r) / 2 = k := ⟨_, rfl⟩
        have hk1 : ((s : Int) + (r : Int)) / 2 = (k : Int) := by omega
        have hki : s ≤ k ∧ k < r := by omega
        obtain ⟨d, hd⟩ : ∃ d, mid + m - 1 - k = d := ⟨_, rfl⟩
        have hd1 : IntKind.i64.wrap ((n2 : Int) - 1 - (k : Int)) = (d : Int) := by rw [IntWalk.i64_in _ (by omega)]; omega
        have hkb : a ≤ k ∧ k < m ∧ m ≤ d ∧ d < b := by omega
        have q1 : (0 : Int) ≤ (k : Int) := by omega
        have q2 : (k : Int) < (n : Int) := by omega
        have q3 : (0 : Int) ≤ (d : Int) := by omega
        have q4 : (d : Int) < (n : Int) := by omega
        have HD := Lib.hid hd
        clear hr hg hk hd
        obtain ⟨c1, c3⟩ := HR.out.get (i := d) (by first | omega | (have := HM.out; omega))
        obtain ⟨c2, c4⟩ := HR.out.get (i := k) (by first | omega | (have := HM.out; omega))
        have hcall := HC.out.1.calls w1.drew (p (d)) (p (k))
        have hsg := HC.out.1.sign (p (d)) (p (k))
        obtain ⟨Ai, mi, di, hvi⟩ := HC.out.2 (p (d))
        obtain ⟨Aj, mj, dj, hvj⟩ := HC.out.2 (p (k))
        rw [hvi] at c3 hcall
        rw [hvj] at c4 hcall
        obtain ⟨x, ex⟩ : ∃ x : Int, (el ts (p (d))).1 = x := ⟨_, rfl⟩
        obtain ⟨y, ey⟩ : ∃ y : Int, (el ts (p (k))).1 = y := ⟨_, rfl⟩
        obtain ⟨z, ez⟩ : ∃ z : Int, cz (p (d)) (p (k)) = z := ⟨_, rfl⟩
        rw [ex] at c1 hcall
        rw [ey] at c2 hcall
        rw [ez] at hsg hcall
        have HCL := Lib.hid hcall
        have HSG := Lib.hid hsg
        clear hcall hsg ex ey ez hvi hvj
        by_cases hz : z < 0
        · have hz0 : decide (z < 0) = true := decide_eq_true hz
          go_wp2_with fail
          go_region_held3 (fun w' => (w'.cell? ⟨g, d * 2, none⟩ = some (.int .i64 x) ∧ w'.cell? ⟨g, d * 2 + 1, none⟩ = some (.slice Ai mi di)) ∧ w'.cell? ⟨g, k * 2, none⟩ = some (.int .i64 y) ∧ w'.cell? ⟨g, k * 2 + 1, none⟩ = some (.slice Aj mj dj))
            (first | exact ⟨⟨n0, n2⟩, n1, n3⟩ | exact ⟨⟨c1, c3⟩, c2, c4⟩ | fail)
            (first
              | (go_at_call 22; refine HCL.out.mono ?_; rintro e w3 ⟨rfl, b3⟩; have b3 := below_undrew b3; have n0 := (b3.cell (p := ⟨g, d * 2, none⟩) HR.out.lt.2).trans c1; have n1 := (b3.cell (p := ⟨g, k * 2, none⟩) HR.out.lt.2).trans c2; have n2 := (b3.cell (p := ⟨g, d * 2 + 1, none⟩) HR.out.lt.2).trans c3; have n3 := (b3.cell (p := ⟨g, k * 2 + 1, none⟩) HR.out.lt.2).trans c4))
          have HR3 := Lib.hid (RowS.below (W' := w3) HR.out b3)
          have G3 := Lib.hid (grownT HG.out (grownB b3 (some g)))
          clear c1 c2 c3 c4 n0 n1 n2 n3
          go_wp2_with fail
          go_roundw
          case rel => exact ⟨s, k, by omega, by omega, by omega, rfl, rfl, HR3.out, G3.out, HA.out, fun _ => by rw [HD.out]; exact lo_of_lt key (HSG.out.1 hz)⟩
          case measure => simp [intOf]; omega
        · have hz0 : decide (z < 0) = false := decide_eq_false hz
          go_wp2_with fail
          go_region_held3 (fun w' => (w'.cell? ⟨g, d * 2, none⟩ = some (.int .i64 x) ∧ w'.cell? ⟨g, d * 2 + 1, none⟩ = some (.slice Ai mi di)) ∧ w'.cell? ⟨g, k * 2, none⟩ = some (.int .i64 y) ∧ w'.cell? ⟨g, k * 2 + 1, none⟩ = some (.slice Aj mj dj))
            (first | exact ⟨⟨n0, n2⟩, n1, n3⟩ | exact ⟨⟨c1, c3⟩, c2, c4⟩ | fail)
            (first
              | (go_at_call 22; refine HCL.out.mono ?_; rintro e w3 ⟨rfl, b3⟩; have b3 := below_undrew b3; have n0 := (b3.cell (p := ⟨g, d * 2, none⟩) HR.out.lt.2).trans c1; have n1 := (b3.cell (p := ⟨g, k * 2, none⟩) HR.out.lt.2).trans c2; have n2 := (b3.cell (p := ⟨g, d * 2 + 1, none⟩) HR.out.lt.2).trans c3; have n3 := (b3.cell (p := ⟨g, k * 2 + 1, none⟩) HR.out.lt.2).trans c4))
          have HR3 := Lib.hid (RowS.below (W' := w3) HR.out b3)
          have G3 := Lib.hid (grownT HG.out (grownB b3 (some g)))
          clear c1 c2 c3 c4 n0 n1 n2 n3
          go_wp2_with fail
          go_roundw
          case rel => exact ⟨k + 1, r, by omega, by omega, by omega, by go_num, rfl, HR3.out, G3.out, fun _ => by rw [show k + 1 - 1 = k from rfl, HD.out]; exact lo_of_not key (HPT.out.tag k d (by omega) (by omega) (by omega) (by omega)) (fun h => by have := HSG.out.2 h; omega), HB.out⟩
          case measure => simp [intOf]; omega
      · obtain rfl : s = r := by omega
        have hcut := cut_of (key := key) (p := p) (a := a) (m := m) (b := b) (mid := mid) (s := s) (s0 := s0) (r0 := mid) (by omega) (by omega) (by omega) (by omega) (by omega) (by omega) ⟨i1, i3⟩ HA.out HB.out
        obtain ⟨e, he⟩ : ∃ e, mid + m - s = e := ⟨_, rfl⟩
        rw [he] at hcut
        have he1 : (n2 : Int) - (s : Int) = (e : Int) := by omega
        have hme : mid - a = (s - a) + (e - m) := hcut.2
        have hcc := hcut.1
        have hc1 := hcc.s1
        have hc2 := hcc.s2
        have hc3 := hcc.e1
        have hc4 := hcc.e2
        have HCUT := Lib.hid hcut.1
        have hE := cutE he hc2
        have HME := Lib.hid hme
        clear hr hg hcut hcc he hme hn3 hn4 i1 hs3
        by_cases kA : s = m
        · exact absurd kA (by omega)
        · by_cases kB : e = m
          · have d_s_m : decide (s < m) = true := decide_eq_true (by omega)
            have d_m_e : decide (m < e) = false := decide_eq_false (by omega)
            have d_a_s : decide (a < s) = true := decide_eq_true (by omega)
            have d_s_mid : decide (s < mid) = false := decide_eq_false (by omega)
            have d_mid_e : decide (mid < e) = true := decide_eq_true (by omega)
            have d_e_b : decide (e < b) = true := decide_eq_true (by omega)
            have HRA := Lib.hid (RowS.cast HR.out (rot_r p (s := s) kB))
            have kB3 : e ≤ m := Nat.le_of_eq kB
            clear kB
            have HP1 : Hid (∀ i, i < n → rot p s m e i < n) := Lib.hid (fun i hi => shuf_lt ((rot_shuf p (by omega) (by omega)).wide (Nat.le_refl s) (Nat.le_refl e)) (by omega) HP.out hi)
            have HS1 : Hid (Srt key (rot p s m e) a mid) := Lib.hid (srt_l (HCUT.out.first HPT.out mid HME.out (by omega)) (by omega))
            have HF1 := Lib.hid (Shuf.refl (rot p s m e) a mid)
            have HPT2 : Hid (Parts key (rot p s m e) mid e b) := Lib.hid ((HCUT.out.second HPT.out mid HME.out (by omega)).same (fun i h1 h2 => HF1.out.out i (by omega)) (by omega) (by omega))
            go_wp2_with fail
            refine (IH.out w1 (rot p s m e) mid e b (by omega) (by omega) (by omega) (by omega) HRA.out (fun i hi => shuf_lt HF1.out (by omega) HP1.out hi) HPT2.out HC.out).mono ?_
            rintro e1 wC ⟨rfl, q2, hC1, sC1, fC1, gC1⟩
            have HRC := Lib.hid hC1
            have HGC := Lib.hid (grownT HG.out gC1)
            have HS2 := Lib.hid sC1
            have HF2 := Lib.hid fC1
            clear hC1 sC1 fC1 gC1
            have HEND := Lib.hid (merge_end HPT.out HCUT.out HME.out (by omega) (by omega) HF1.out HS1.out HF2.out HS2.out)
            go_wp2_with fail
            go_end0
            exact ⟨rfl, q2, HRC.out, HEND.out.1, HEND.out.2, HGC.out⟩
          · by_cases kC : a < s
            · by_cases kD : e < b
              · have d_s_m : decide (s < m) = true := decide_eq_true (by omega)
                have d_m_e : decide (m < e) = true := decide_eq_true (by omega)
                have d_a_s : decide (a < s) = true := decide_eq_true (by omega)
                have d_s_mid : decide (s < mid) = true := decide_eq_true (by omega)
                have d_mid_e : decide (mid < e) = true := decide_eq_true (by omega)
                have d_e_b : decide (e < b) = true := decide_eq_true (by omega)
                go_wp2_with fail
                refine (rotate_c w1 base g n cap ts p s m e _ HC.out.2 (by omega) (by omega) (by omega) hn HR.out).mono ?_
                rintro e1 wA ⟨rfl, hA1, gA1⟩
                have HRA := Lib.hid hA1
                have HGA := Lib.hid (grownT HG.out gA1)
                clear hA1 gA1
                have HP1 : Hid (∀ i, i < n → rot p s m e i < n) := Lib.hid (fun i hi => shuf_lt ((rot_shuf p (by omega) (by omega)).wide (Nat.le_refl s) (Nat.le_refl e)) (by omega) HP.out hi)
                go_wp2_with fail
                refine (IH.out wA _ a s mid (by omega) (by omega) (by omega) (by omega) HRA.out HP1.out (HCUT.out.first HPT.out mid HME.out (by omega)) HC.out).mono ?_
                rintro e1 wB ⟨rfl, q1, hB1, sB1, fB1, gB1⟩
                have HRB := Lib.hid hB1
                have HGB := Lib.hid (grownT HGA.out gB1)
                have HS1 := Lib.hid sB1
                have HF1 := Lib.hid fB1
                clear hB1 sB1 fB1 gB1
                have HPT2 : Hid (Parts key q1 mid e b) := Lib.hid ((HCUT.out.second HPT.out mid HME.out (by omega)).same (fun i h1 h2 => HF1.out.out i (by omega)) (by omega) (by omega))
                go_wp2_with fail
                refine (IH.out wB q1 mid e b (by omega) (by omega) (by omega) (by omega) HRB.out (fun i hi => shuf_lt HF1.out (by omega) HP1.out hi) HPT2.out HC.out).mono ?_
                rintro e1 wC ⟨rfl, q2, hC1, sC1, fC1, gC1⟩
                have HRC := Lib.hid hC1
                have HGC := Lib.hid (grownT HGB.out gC1)
                have HS2 := Lib.hid sC1
                have HF2 := Lib.hid fC1
                clear hC1 sC1 fC1 gC1
                have HEND := Lib.hid (merge_end HPT.out HCUT.out HME.out (by omega) (by omega) HF1.out HS1.out HF2.out HS2.out)
                go_wp2_with fail
                go_end0
                exact ⟨rfl, q2, HRC.out, HEND.out.1, HEND.out.2, HGC.out⟩
              · have d_s_m : decide (s < m) = true := decide_eq_true (by omega)
                have d_m_e : decide (m < e) = true := decide_eq_true (by omega)
                have d_a_s : decide (a < s) = true := decide_eq_true (by omega)
                have d_s_mid : decide (s < mid) = true := decide_eq_true (by omega)
                have d_mid_e : decide (mid < e) = true := decide_eq_true (by omega)
                have d_e_b : decide (e < b) = false := decide_eq_false (by omega)
                go_wp2_with fail
                refine (rotate_c w1 base g n cap ts p s m e _ HC.out.2 (by omega) (by omega) (by omega) hn HR.out).mono ?_
                rintro e1 wA ⟨rfl, hA1, gA1⟩
                have HRA := Lib.hid hA1
                have HGA := Lib.hid (grownT HG.out gA1)
                clear hA1 gA1
                have HP1 : Hid (∀ i, i < n → rot p s m e i < n) := Lib.hid (fun i hi => shuf_lt ((rot_shuf p (by omega) (by omega)).wide (Nat.le_refl s) (Nat.le_refl e)) (by omega) HP.out hi)
                go_wp2_with fail
                refine (IH.out wA _ a s mid (by omega) (by omega) (by omega) (by omega) HRA.out HP1.out (HCUT.out.first HPT.out mid HME.out (by omega)) HC.out).mono ?_
                rintro e1 wB ⟨rfl, q1, hB1, sB1, fB1, gB1⟩
                have HRB := Lib.hid hB1
                have HGB := Lib.hid (grownT HGA.out gB1)
                have HS1 := Lib.hid sB1
                have HF1 := Lib.hid fB1
                clear hB1 sB1 fB1 gB1
                have HPT2 : Hid (Parts key q1 mid e b) := Lib.hid ((HCUT.out.second HPT.out mid HME.out (by omega)).same (fun i h1 h2 => HF1.out.out i (by omega)) (by omega) (by omega))
                have HS2 : Hid (Srt key q1 mid b) := Lib.hid (srt_l HPT2.out (by omega))
                have HF2 := Lib.hid (Shuf.refl q1 mid b)
                have HEND := Lib.hid (merge_end HPT.out HCUT.out HME.out (by omega) (by omega) HF1.out HS1.out HF2.out HS2.out)
                go_wp2_with fail
                go_end0
                exact ⟨rfl, q1, HRB.out, HEND.out.1, HEND.out.2, HGB.out⟩
            · by_cases kD : e < b
              · have d_s_m : decide (s < m) = true := decide_eq_true (by omega)
                have d_m_e : decide (m < e) = true := decide_eq_true (by omega)
                have d_a_s : decide (a < s) = false := decide_eq_false (by omega)
                have d_mid_e : decide (mid < e) = true := decide_eq_true (by omega)
                have d_e_b : decide (e < b) = true := decide_eq_true (by omega)
                go_wp2_with fail
                refine (rotate_c w1 base g n cap ts p s m e _ HC.out.2 (by omega) (by omega) (by omega) hn HR.out).mono ?_
                rintro e1 wA ⟨rfl, hA1, gA1⟩
                have HRA := Lib.hid hA1
                have HGA := Lib.hid (grownT HG.out gA1)
                clear hA1 gA1
                have HP1 : Hid (∀ i, i < n → rot p s m e i < n) := Lib.hid (fun i hi => shuf_lt ((rot_shuf p (by omega) (by omega)).wide (Nat.le_refl s) (Nat.le_refl e)) (by omega) HP.out hi)
                have HS1 : Hid (Srt key (rot p s m e) a mid) := Lib.hid (srt_r (HCUT.out.first HPT.out mid HME.out (by omega)) (by omega))
                have HF1 := Lib.hid (Shuf.refl (rot p s m e) a mid)
                have HPT2 : Hid (Parts key (rot p s m e) mid e b) := Lib.hid ((HCUT.out.second HPT.out mid HME.out (by omega)).same (fun i h1 h2 => HF1.out.out i (by omega)) (by omega) (by omega))
                go_wp2_with fail
                refine (IH.out wA (rot p s m e) mid e b (by omega) (by omega) (by omega) (by omega) HRA.out (fun i hi => shuf_lt HF1.out (by omega) HP1.out hi) HPT2.out HC.out).mono ?_
                rintro e1 wC ⟨rfl, q2, hC1, sC1, fC1, gC1⟩
                have HRC := Lib.hid hC1
                have HGC := Lib.hid (grownT HGA.out gC1)
                have HS2 := Lib.hid sC1
                have HF2 := Lib.hid fC1
                clear hC1 sC1 fC1 gC1
                have HEND := Lib.hid (merge_end HPT.out HCUT.out HME.out (by omega) (by omega) HF1.out HS1.out HF2.out HS2.out)
                go_wp2_with fail
                go_end0
                exact ⟨rfl, q2, HRC.out, HEND.out.1, HEND.out.2, HGC.out⟩
              · have d_s_m : decide (s < m) = true := decide_eq_true (by omega)
                have d_m_e : decide (m < e) = true := decide_eq_true (by omega)
                have d_a_s : decide (a < s) = false := decide_eq_false (by omega)
                have d_mid_e : decide (mid < e) = true := decide_eq_true (by omega)
                have d_e_b : decide (e < b) = false := decide_eq_false (by omega)
                go_wp2_with fail
                refine (rotate_c w1 base g n cap ts p s m e _ HC.out.2 (by omega) (by omega) (by omega) hn HR.out).mono ?_
                rintro e1 wA ⟨rfl, hA1, gA1⟩
                have HRA := Lib.hid hA1
                have HGA := Lib.hid (grownT HG.out gA1)
                clear hA1 gA1
                have HP1 : Hid (∀ i, i < n → rot p s m e i < n) := Lib.hid (fun i hi => shuf_lt ((rot_shuf p (by omega) (by omega)).wide (Nat.le_refl s) (Nat.le_refl e)) (by omega) HP.out hi)
                have HS1 : Hid (Srt key (rot p s m e) a mid) := Lib.hid (srt_r (HCUT.out.first HPT.out mid HME.out (by omega)) (by omega))
                have HF1 := Lib.hid (Shuf.refl (rot p s m e) a mid)
                have HPT2 : Hid (Parts key (rot p s m e) mid e b) := Lib.hid ((HCUT.out.second HPT.out mid HME.out (by omega)).same (fun i h1 h2 => HF1.out.out i (by omega)) (by omega) (by omega))
                have HS2 : Hid (Srt key (rot p s m e) mid b) := Lib.hid (srt_l HPT2.out (by omega))
                have HF2 := Lib.hid (Shuf.refl (rot p s m e) mid b)
                have HEND := Lib.hid (merge_end HPT.out HCUT.out HME.out (by omega) (by omega) HF1.out HS1.out HF2.out HS2.out)
                go_wp2_with fail
                go_end0
                exact ⟨rfl, (rot p s m e), HRA.out, HEND.out.1, HEND.out.2, HGA.out⟩
  · have hbm : decide (mid < m) = false := decide_eq_false hcase
    have HCS := Lib.hid (Nat.le_of_not_lt hcase)
    have hcx : (m : Int) ≤ (mid : Int) := Int.ofNat_le.2 (Nat.le_of_not_lt hcase)
    clear hn3
    go_enter Try.func35, Try.ntmps35
    clear hcase
    go_wp2
    clear hm1 hm3 hm5 hdd1 hdd2 hmid1 hbm hcx
    have hmb2 := HMB2.out
    have hn3 := HN3.out
    have hn4 := HN4.out
    have hcs := HCS.out
    skip
    go_loopw [20, 21] (fun x y wr => ∃ s r : Nat, a ≤ s ∧ s ≤ r ∧ r ≤ m ∧ x = .int .i64 s ∧ y = .int .i64 r ∧ RowS wr base g n cap ts p ∧ w.grownBy wr (some g) ∧ (a < s → lo key (p (s - 1)) (p (mid + m - 1 - (s - 1)))) ∧ (r < m → lo key (p (mid + m - 1 - r)) (p r))) (fun x y _ => (intOf y).toNat - (intOf x).toNat)
    case atStart => exact ⟨a, m, Nat.le_refl _, by omega, Nat.le_refl _, rfl, rfl, H0.out, grownR _ _, fun h => by omega, fun h => by omega⟩
    case round =>
      obtain ⟨s, r, i1, i2, i3, rfl, rfl, hr, hg, hA, hB⟩ := hrel
      obtain ⟨w1, rfl⟩ : ∃ q' : World, q' = wr := ⟨_, rfl⟩
      have HA := Lib.hid hA
      have HB := Lib.hid hB
      have HR : Hid (RowS w1 base g n cap ts p) := Lib.hid hr
      have HG : Hid (w.grownBy w1 (some g)) := Lib.hid hg
      clear hA hB
      by_cases hlt : s < r
      · obtain ⟨k, hk⟩ : ∃ k, (s + r) / 2 = k := ⟨_, rfl⟩
        have hk1 : ((s : Int) + (r : Int)) / 2 = (k : Int) := by omega
        have hki : s ≤ k ∧ k < r := by omega
        obtain ⟨d, hd⟩ : ∃ d, mid + m - 1 - k = d := ⟨_, rfl⟩
        have hd1 : IntKind.i64.wrap ((n2 : Int) - 1 - (k : Int)) = (d : Int) := by rw [IntWalk.i64_in _ (by omega)]; omega
        have hkb : a ≤ k ∧ k < m ∧ m ≤ d ∧ d < b := by omega
        have q1 : (0 : Int) ≤ (k : Int) := by omega
        have q2 : (k : Int) < (n : Int) := by omega
        have q3 : (0 : Int) ≤ (d : Int) := by omega
        have q4 : (d : Int) < (n : Int) := by omega
        have HD := Lib.hid hd
        clear hr hg hk hd
        obtain ⟨c1, c3⟩ := HR.out.get (i := d) (by first | omega | (have := HM.out; omega))
        obtain ⟨c2, c4⟩ := HR.out.get (i := k) (by first | omega | (have := HM.out; omega))
        have hcall := HC.out.1.calls w1.drew (p (d)) (p (k))
        have hsg := HC.out.1.sign (p (d)) (p (k))
        obtain ⟨Ai, mi, di, hvi⟩ := HC.out.2 (p (d))
        obtain ⟨Aj, mj, dj, hvj⟩ := HC.out.2 (p (k))
        rw [hvi] at c3 hcall
        rw [hvj] at c4 hcall
        obtain ⟨x, ex⟩ : ∃ x : Int, (el ts (p (d))).1 = x := ⟨_, rfl⟩
        obtain ⟨y, ey⟩ : ∃ y : Int, (el ts (p (k))).1 = y := ⟨_, rfl⟩
        obtain ⟨z, ez⟩ : ∃ z : Int, cz (p (d)) (p (k)) = z := ⟨_, rfl⟩
        rw [ex] at c1 hcall
        rw [ey] at c2 hcall
        rw [ez] at hsg hcall
        have HCL := Lib.hid hcall
        have HSG := Lib.hid hsg
        clear hcall hsg ex ey ez hvi hvj
        by_cases hz : z < 0
        · have hz0 : decide (z < 0) = true := decide_eq_true hz
          go_wp2_with fail
          go_region_held3 (fun w' => (w'.cell? ⟨g, d * 2, none⟩ = some (.int .i64 x) ∧ w'.cell? ⟨g, d * 2 + 1, none⟩ = some (.slice Ai mi di)) ∧ w'.cell? ⟨g, k * 2, none⟩ = some (.int .i64 y) ∧ w'.cell? ⟨g, k * 2 + 1, none⟩ = some (.slice Aj mj dj))
            (first | exact ⟨⟨n0, n2⟩, n1, n3⟩ | exact ⟨⟨c1, c3⟩, c2, c4⟩ | fail)
            (first
              | (go_at_call 22; refine HCL.out.mono ?_; rintro e w3 ⟨rfl, b3⟩; have b3 := below_undrew b3; have n0 := (b3.cell (p := ⟨g, d * 2, none⟩) HR.out.lt.2).trans c1; have n1 := (b3.cell (p := ⟨g, k * 2, none⟩) HR.out.lt.2).trans c2; have n2 := (b3.cell (p := ⟨g, d * 2 + 1, none⟩) HR.out.lt.2).trans c3; have n3 := (b3.cell (p := ⟨g, k * 2 + 1, none⟩) HR.out.lt.2).trans c4))
          have HR3 := Lib.hid (RowS.below (W' := w3) HR.out b3)
          have G3 := Lib.hid (grownT HG.out (grownB b3 (some g)))
          clear c1 c2 c3 c4 n0 n1 n2 n3
          go_wp2_with fail
          go_roundw
          case rel => exact ⟨s, k, by omega, by omega, by omega, rfl, rfl, HR3.out, G3.out, HA.out, fun _ => by rw [HD.out]; exact lo_of_lt key (HSG.out.1 hz)⟩
          case measure => simp [intOf]; omega
        · have hz0 : decide (z < 0) = false := decide_eq_false hz
          go_wp2_with fail
          go_region_held3 (fun w' => (w'.cell? ⟨g, d * 2, none⟩ = some (.int .i64 x) ∧ w'.cell? ⟨g, d * 2 + 1, none⟩ = some (.slice Ai mi di)) ∧ w'.cell? ⟨g, k * 2, none⟩ = some (.int .i64 y) ∧ w'.cell? ⟨g, k * 2 + 1, none⟩ = some (.slice Aj mj dj))
            (first | exact ⟨⟨n0, n2⟩, n1, n3⟩ | exact ⟨⟨c1, c3⟩, c2, c4⟩ | fail)
            (first
              | (go_at_call 22; refine HCL.out.mono ?_; rintro e w3 ⟨rfl, b3⟩; have b3 := below_undrew b3; have n0 := (b3.cell (p := ⟨g, d * 2, none⟩) HR.out.lt.2).trans c1; have n1 := (b3.cell (p := ⟨g, k * 2, none⟩) HR.out.lt.2).trans c2; have n2 := (b3.cell (p := ⟨g, d * 2 + 1, none⟩) HR.out.lt.2).trans c3; have n3 := (b3.cell (p := ⟨g, k * 2 + 1, none⟩) HR.out.lt.2).trans c4))
          have HR3 := Lib.hid (RowS.below (W' := w3) HR.out b3)
          have G3 := Lib.hid (grownT HG.out (grownB b3 (some g)))
          clear c1 c2 c3 c4 n0 n1 n2 n3
          go_wp2_with fail
          go_roundw
          case rel => exact ⟨k + 1, r, by omega, by omega, by omega, by go_num, rfl, HR3.out, G3.out, fun _ => by rw [show k + 1 - 1 = k from rfl, HD.out]; exact lo_of_not key (HPT.out.tag k d (by omega) (by omega) (by omega) (by omega)) (fun h => by have := HSG.out.2 h; omega), HB.out⟩
          case measure => simp [intOf]; omega
      · obtain rfl : s = r := by omega
        have hcut := cut_of (key := key) (p := p) (a := a) (m := m) (b := b) (mid := mid) (s := s) (s0 := a) (r0 := m) (by omega) (by omega) (by omega) (by omega) (by omega) (by omega) ⟨i1, i3⟩ HA.out HB.out
        obtain ⟨e, he⟩ : ∃ e, mid + m - s = e := ⟨_, rfl⟩
        rw [he] at hcut
        have he1 : (n2 : Int) - (s : Int) = (e : Int) := by omega
        have hme : mid - a = (s - a) + (e - m) := hcut.2
        have hcc := hcut.1
        have hc1 := hcc.s1
        have hc2 := hcc.s2
        have hc3 := hcc.e1
        have hc4 := hcc.e2
        have HCUT := Lib.hid hcut.1
        have hE := cutE he hc2
        have HME := Lib.hid hme
        clear hr hg hcut hcc he hme hn3 hn4 i1 i3
        by_cases kA : s = m
        · by_cases kA2 : s < mid
          · have d_s_m : decide (s < m) = false := decide_eq_false (by omega)
            have d_a_s : decide (a < s) = true := decide_eq_true (by omega)
            have d_s_mid : decide (s < mid) = true := decide_eq_true (by omega)
            have d_mid_e : decide (mid < e) = false := decide_eq_false (by omega)
            have HRA := Lib.hid (RowS.cast HR.out (rot_l p (e := e) kA))
            have kA3 : m ≤ s := Nat.le_of_eq kA.symm
            clear kA
            have HP1 : Hid (∀ i, i < n → rot p s m e i < n) := Lib.hid (fun i hi => shuf_lt ((rot_shuf p (by omega) (by omega)).wide (Nat.le_refl s) (Nat.le_refl e)) (by omega) HP.out hi)
            go_wp2_with fail
            refine (IH.out w1 _ a s mid (by omega) (by omega) (by omega) (by omega) HRA.out HP1.out (HCUT.out.first HPT.out mid HME.out (by omega)) HC.out).mono ?_
            rintro e1 wB ⟨rfl, q1, hB1, sB1, fB1, gB1⟩
            have HRB := Lib.hid hB1
            have HGB := Lib.hid (grownT HG.out gB1)
            have HS1 := Lib.hid sB1
            have HF1 := Lib.hid fB1
            clear hB1 sB1 fB1 gB1
            have HPT2 : Hid (Parts key q1 mid e b) := Lib.hid ((HCUT.out.second HPT.out mid HME.out (by omega)).same (fun i h1 h2 => HF1.out.out i (by omega)) (by omega) (by omega))
            have HS2 : Hid (Srt key q1 mid b) := Lib.hid (srt_r HPT2.out (by omega))
            have HF2 := Lib.hid (Shuf.refl q1 mid b)
            have HEND := Lib.hid (merge_end HPT.out HCUT.out HME.out (by omega) (by omega) HF1.out HS1.out HF2.out HS2.out)
            go_wp2_with fail
            go_end0
            exact ⟨rfl, q1, HRB.out, HEND.out.1, HEND.out.2, HGB.out⟩
          · have d_s_m : decide (s < m) = false := decide_eq_false (by omega)
            have d_a_s : decide (a < s) = true := decide_eq_true (by omega)
            have d_s_mid : decide (s < mid) = false := decide_eq_false (by omega)
            have d_mid_e : decide (mid < e) = false := decide_eq_false (by omega)
            have HRA := Lib.hid (RowS.cast HR.out (rot_l p (e := e) kA))
            have kA3 : m ≤ s := Nat.le_of_eq kA.symm
            clear kA
            have HP1 : Hid (∀ i, i < n → rot p s m e i < n) := Lib.hid (fun i hi => shuf_lt ((rot_shuf p (by omega) (by omega)).wide (Nat.le_refl s) (Nat.le_refl e)) (by omega) HP.out hi)
            have HS1 : Hid (Srt key (rot p s m e) a mid) := Lib.hid (srt_l (HCUT.out.first HPT.out mid HME.out (by omega)) (by omega))
            have HF1 := Lib.hid (Shuf.refl (rot p s m e) a mid)
            have HPT2 : Hid (Parts key (rot p s m e) mid e b) := Lib.hid ((HCUT.out.second HPT.out mid HME.out (by omega)).same (fun i h1 h2 => HF1.out.out i (by omega)) (by omega) (by omega))
            have HS2 : Hid (Srt key (rot p s m e) mid b) := Lib.hid (srt_r HPT2.out (by omega))
            have HF2 := Lib.hid (Shuf.refl (rot p s m e) mid b)
            have HEND := Lib.hid (merge_end HPT.out HCUT.out HME.out (by omega) (by omega) HF1.out HS1.out HF2.out HS2.out)
            go_wp2_with fail
            go_end0
            exact ⟨rfl, (rot p s m e), HRA.out, HEND.out.1, HEND.out.2, HG.out⟩
        · by_cases kB : e = m
          · exact absurd kB (by omega)
          · by_cases kC : a < s
            · by_cases kD : e < b
              · have d_s_m : decide (s < m) = true := decide_eq_true (by omega)
                have d_m_e : decide (m < e) = true := decide_eq_true (by omega)
                have d_a_s : decide (a < s) = true := decide_eq_true (by omega)
                have d_s_mid : decide (s < mid) = true := decide_eq_true (by omega)
                have d_mid_e : decide (mid < e) = true := decide_eq_true (by omega)
                have d_e_b : decide (e < b) = true := decide_eq_true (by omega)
                go_wp2_with fail
                refine (rotate_c w1 base g n cap ts p s m e _ HC.out.2 (by omega) (by omega) (by omega) hn HR.out).mono ?_
                rintro e1 wA ⟨rfl, hA1, gA1⟩
                have HRA := Lib.hid hA1
                have HGA := Lib.hid (grownT HG.out gA1)
                clear hA1 gA1
                have HP1 : Hid (∀ i, i < n → rot p s m e i < n) := Lib.hid (fun i hi => shuf_lt ((rot_shuf p (by omega) (by omega)).wide (Nat.le_refl s) (Nat.le_refl e)) (by omega) HP.out hi)
                go_wp2_with fail
                refine (IH.out wA _ a s mid (by omega) (by omega) (by omega) (by omega) HRA.out HP1.out (HCUT.out.first HPT.out mid HME.out (by omega)) HC.out).mono ?_
                rintro e1 wB ⟨rfl, q1, hB1, sB1, fB1, gB1⟩
                have HRB := Lib.hid hB1
                have HGB := Lib.hid (grownT HGA.out gB1)
                have HS1 := Lib.hid sB1
                have HF1 := Lib.hid fB1
                clear hB1 sB1 fB1 gB1
                have HPT2 : Hid (Parts key q1 mid e b) := Lib.hid ((HCUT.out.second HPT.out mid HME.out (by omega)).same (fun i h1 h2 => HF1.out.out i (by omega)) (by omega) (by omega))
                go_wp2_with fail
                refine (IH.out wB q1 mid e b (by omega) (by omega) (by omega) (by omega) HRB.out (fun i hi => shuf_lt HF1.out (by omega) HP1.out hi) HPT2.out HC.out).mono ?_
                rintro e1 wC ⟨rfl, q2, hC1, sC1, fC1, gC1⟩
                have HRC := Lib.hid hC1
                have HGC := Lib.hid (grownT HGB.out gC1)
                have HS2 := Lib.hid sC1
                have HF2 := Lib.hid fC1
                clear hC1 sC1 fC1 gC1
                have HEND := Lib.hid (merge_end HPT.out HCUT.out HME.out (by omega) (by omega) HF1.out HS1.out HF2.out HS2.out)
                go_wp2_with fail
                go_end0
                exact ⟨rfl, q2, HRC.out, HEND.out.1, HEND.out.2, HGC.out⟩
              · have d_s_m : decide (s < m) = true := decide_eq_true (by omega)
                have d_m_e : decide (m < e) = true := decide_eq_true (by omega)
                have d_a_s : decide (a < s) = true := decide_eq_true (by omega)
                have d_s_mid : decide (s < mid) = true := decide_eq_true (by omega)
                have d_mid_e : decide (mid < e) = true := decide_eq_true (by omega)
                have d_e_b : decide (e < b) = false := decide_eq_false (by omega)
                go_wp2_with fail
                refine (rotate_c w1 base g n cap ts p s m e _ HC.out.2 (by omega) (by omega) (by omega) hn HR.out).mono ?_
                rintro e1 wA ⟨rfl, hA1, gA1⟩
                have HRA := Lib.hid hA1
                have HGA := Lib.hid (grownT HG.out gA1)
                clear hA1 gA1
                have HP1 : Hid (∀ i, i < n → rot p s m e i < n) := Lib.hid (fun i hi => shuf_lt ((rot_shuf p (by omega) (by omega)).wide (Nat.le_refl s) (Nat.le_refl e)) (by omega) HP.out hi)
                go_wp2_with fail
                refine (IH.out wA _ a s mid (by omega) (by omega) (by omega) (by omega) HRA.out HP1.out (HCUT.out.first HPT.out mid HME.out (by omega)) HC.out).mono ?_
                rintro e1 wB ⟨rfl, q1, hB1, sB1, fB1, gB1⟩
                have HRB := Lib.hid hB1
                have HGB := Lib.hid (grownT HGA.out gB1)
                have HS1 := Lib.hid sB1
                have HF1 := Lib.hid fB1
                clear hB1 sB1 fB1 gB1
                have HPT2 : Hid (Parts key q1 mid e b) := Lib.hid ((HCUT.out.second HPT.out mid HME.out (by omega)).same (fun i h1 h2 => HF1.out.out i (by omega)) (by omega) (by omega))
                have HS2 : Hid (Srt key q1 mid b) := Lib.hid (srt_l HPT2.out (by omega))
                have HF2 := Lib.hid (Shuf.refl q1 mid b)
                have HEND := Lib.hid (merge_end HPT.out HCUT.out HME.out (by omega) (by omega) HF1.out HS1.out HF2.out HS2.out)
                go_wp2_with fail
                go_end0
                exact ⟨rfl, q1, HRB.out, HEND.out.1, HEND.out.2, HGB.out⟩
            · by_cases kD : e < b
              · have d_s_m : decide (s < m) = true := decide_eq_true (by omega)
                have d_m_e : decide (m < e) = true := decide_eq_true (by omega)
                have d_a_s : decide (a < s) = false := decide_eq_false (by omega)
                have d_mid_e : decide (mid < e) = true := decide_eq_true (by omega)
                have d_e_b : decide (e < b) = true := decide_eq_true (by omega)
                go_wp2_with fail
                refine (rotate_c w1 base g n cap ts p s m e _ HC.out.2 (by omega) (by omega) (by omega) hn HR.out).mono ?_
                rintro e1 wA ⟨rfl, hA1, gA1⟩
                have HRA := Lib.hid hA1
                have HGA := Lib.hid (grownT HG.out gA1)
                clear hA1 gA1
                have HP1 : Hid (∀ i, i < n → rot p s m e i < n) := Lib.hid (fun i hi => shuf_lt ((rot_shuf p (by omega) (by omega)).wide (Nat.le_refl s) (Nat.le_refl e)) (by omega) HP.out hi)
                have HS1 : Hid (Srt key (rot p s m e) a mid) := Lib.hid (srt_r (HCUT.out.first HPT.out mid HME.out (by omega)) (by omega))
                have HF1 := Lib.hid (Shuf.refl (rot p s m e) a mid)
                have HPT2 : Hid (Parts key (rot p s m e) mid e b) := Lib.hid ((HCUT.out.second HPT.out mid HME.out (by omega)).same (fun i h1 h2 => HF1.out.out i (by omega)) (by omega) (by omega))
                go_wp2_with fail
                refine (IH.out wA (rot p s m e) mid e b (by omega) (by omega) (by omega) (by omega) HRA.out (fun i hi => shuf_lt HF1.out (by omega) HP1.out hi) HPT2.out HC.out).mono ?_
                rintro e1 wC ⟨rfl, q2, hC1, sC1, fC1, gC1⟩
                have HRC := Lib.hid hC1
                have HGC := Lib.hid (grownT HGA.out gC1)
                have HS2 := Lib.hid sC1
                have HF2 := Lib.hid fC1
                clear hC1 sC1 fC1 gC1
                have HEND := Lib.hid (merge_end HPT.out HCUT.out HME.out (by omega) (by omega) HF1.out HS1.out HF2.out HS2.out)
                go_wp2_with fail
                go_end0
                exact ⟨rfl, q2, HRC.out, HEND.out.1, HEND.out.2, HGC.out⟩
              · have d_s_m : decide (s < m) = true := decide_eq_true (by omega)
                have d_m_e : decide (m < e) = true := decide_eq_true (by omega)
                have d_a_s : decide (a < s) = false := decide_eq_false (by omega)
                have d_mid_e : decide (mid < e) = true := decide_eq_true (by omega)
                have d_e_b : decide (e < b) = false := decide_eq_false (by omega)
                go_wp2_with fail
                refine (rotate_c w1 base g n cap ts p s m e _ HC.out.2 (by omega) (by omega) (by omega) hn HR.out).mono ?_
                rintro e1 wA ⟨rfl, hA1, gA1⟩
                have HRA := Lib.hid hA1
                have HGA := Lib.hid (grownT HG.out gA1)
                clear hA1 gA1
                have HP1 : Hid (∀ i, i < n → rot p s m e i < n) := Lib.hid (fun i hi => shuf_lt ((rot_shuf p (by omega) (by omega)).wide (Nat.le_refl s) (Nat.le_refl e)) (by omega) HP.out hi)
                have HS1 : Hid (Srt key (rot p s m e) a mid) := Lib.hid (srt_r (HCUT.out.first HPT.out mid HME.out (by omega)) (by omega))
                have HF1 := Lib.hid (Shuf.refl (rot p s m e) a mid)
                have HPT2 : Hid (Parts key (rot p s m e) mid e b) := Lib.hid ((HCUT.out.second HPT.out mid HME.out (by omega)).same (fun i h1 h2 => HF1.out.out i (by omega)) (by omega) (by omega))
                have HS2 : Hid (Srt key (rot p s m e) mid b) := Lib.hid (srt_l HPT2.out (by omega))
                have HF2 := Lib.hid (Shuf.refl (rot p s m e) mid b)
                have HEND := Lib.hid (merge_end HPT.out HCUT.out HME.out (by omega) (by omega) HF1.out HS1.out HF2.out HS2.out)
                go_wp2_with fail
                go_end0
                exact ⟨rfl, (rot p s m e), HRA.out, HEND.out.1, HEND.out.2, HGA.out⟩

theorem merge_c (base g n cap : Nat) (ts : List (Int × Value)) (key : Nat → Int) (cz : Nat → Nat → Int) (hn : n ≤ 64) : ∀ (N : Nat) (w : World) (p : Nat → Nat) (a m b : Nat), b - a ≤ N → a < m → m < b → b ≤ n → RowS w base g n cap ts p → (∀ i, i < n → p i < n) → Parts key p a m b → Cmp ts key cz ∧ Sls ts →
    Calls Try.prog 35 #[.slice (some ⟨g, 0, none⟩) n cap, .int .i64 a, .int .i64 m, .int .i64 b, cmpV] w (MergePost w base g n cap ts p key a b)
  | 0, w, p, a, m, b, hN, ham, hmb, hb, h, hp, hpt, hC => by omega
  | N + 1, w, p, a, m, b, hN, ham, hmb, hb, h, hp, hpt, hC => by
    by_cases h1 : m = a + 1
    · exact merge_left_c w base g n cap ts p key cz a b m h1 hmb hb hn h hp hpt hC
    · by_cases h2 : b = m + 1
      · exact merge_right_c w base g n cap ts p key cz a b m h2 (by omega) hb hn h hp hpt hC
      · exact merge_main_c w base g n cap ts p key cz a m b (by omega) (by omega) hb hn h hp hpt hC (fun w' p' a' m' b' h3 h4 h5 h6 h7 h8 h9 h10 => merge_c base g n cap ts key cz hn N w' p' a' m' b' (by omega) h4 h5 h6 h7 h8 h9 h10)

end Go.Proofs.Ytkmfjadlobpbkaa
