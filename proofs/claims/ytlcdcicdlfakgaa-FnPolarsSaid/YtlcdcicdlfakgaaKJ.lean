/-
  Contracts: polarRead of soft numbers of known signs.
  Conditions: at most 32 numbers.
-/
import Derived.Test.YtlcdcicdlfakgaaKI
import Derived.Test.YtlcdcicdlfakgaaPL
namespace Go.Proofs.Ytlcdcicdlfakgaa
open Go.RowKit

/-- the number for the sum of two bits -/
def lowW (x y : Nat) : Nat := if (FloatKind.f32.format.order x 0 == some .gt) == (FloatKind.f32.format.order y 0 == some .gt) then Op.negFloat .f32 (minW (absW x) (absW y)) else minW (absW x) (absW y)
theorem gt_amp {a : Nat} {c : Bool} {x : Nat} (ha : a ≤ 128) (h : Amp a c x) : (FloatKind.f32.format.order x 0 == some .gt) = c := by
  rw [h.order ha]; cases c <;> rfl
theorem lowW_amp {a : Nat} {c d : Bool} {x y : Nat} (ha : a ≤ 128) (hx : Amp a c x) (hy : Amp a d y) : Amp a (c != d) (lowW x y) := by
  have hm := min_amp (abs_amp ha hx) (abs_amp ha hy)
  unfold lowW
  rw [gt_amp ha hx, gt_amp ha hy]
  cases c <;> cases d
  · exact neg_amp hm
  · exact hm
  · exact hm
  · exact neg_amp hm
/-- the number for the later half -/
def sumW (c : Bool) (x y : Nat) : Nat := if c then vop .sub y x else vop .add y x
theorem sumW_amp {a : Nat} {c d : Bool} {x y : Nat} (ha : a ≤ 120) (hx : Amp a c x) (hy : Amp a d y) : Amp (a + 2) d (sumW (c != d) x y) := by
  by_cases h : c = d
  · subst h
    obtain ⟨r, h1, h2⟩ := add_amp ha hy hx
    have e : (c != c) = false := by cases c <;> rfl
    unfold sumW
    rw [e]
    unfold vop
    rw [if_neg (by decide), h1]
    exact h2
  · have e : c = !d := by cases c <;> cases d <;> simp_all
    subst e
    obtain ⟨r, h1, h2⟩ := sub_amp ha hy hx
    have e : ((!d) != d) = true := by cases d <;> rfl
    unfold sumW
    rw [e]
    unfold vop
    rw [if_pos rfl, h1]
    exact h2
def lowL (soft : List Nat) (h k : Nat) : List Nat := (List.range k).map fun i => lowW (soft.getD i 0) (soft.getD (h + i) 0)
def sumL (g : Nat → Bool) (soft : List Nat) (h k : Nat) : List Nat := (List.range k).map fun i => sumW (g i) (soft.getD i 0) (soft.getD (h + i) 0)
theorem lowL_len (soft : List Nat) (h k : Nat) : (lowL soft h k).length = k := by simp [lowL]
theorem sumL_len (g : Nat → Bool) (soft : List Nat) (h k : Nat) : (sumL g soft h k).length = k := by simp [sumL]
theorem lowL_succ (soft : List Nat) (h k : Nat) : lowL soft h (k + 1) = lowL soft h k ++ [lowW (soft.getD k 0) (soft.getD (h + k) 0)] := by simp [lowL, List.range_succ]
theorem sumL_succ (g : Nat → Bool) (soft : List Nat) (h k : Nat) : sumL g soft h (k + 1) = sumL g soft h k ++ [sumW (g k) (soft.getD k 0) (soft.getD (h + k) 0)] := by simp [sumL, List.range_succ]

/-- what is to be shown of a call at 2^j numbers -/
def PR (D rb np : Nat) (U : Nat → Bool) (pl : List Int) (j : Nat) : Prop :=
  ∀ (w : World) (r : Nat) (xs : List Value) (A Ap : Option Addr) (cap capp n a q amp : Nat) (soft : List Nat), n = 2 ^ j → a = n * q → a + n ≤ 32 → amp + 2 * j ≤ 100 → soft.length = n → n ≤ cap →
    (∀ i (h : i < soft.length), Amp amp (enc U j (a + i)) soft[i]) → Far w rb r A (soft.map (Value.float .f32)) → Far w rb r Ap (pl.map (Value.int .i64)) → Rd w D rb r xs → D ≤ w.heap.size → xs.length + n ≤ 64 →
    Calls Try.prog 41 #[.slice A n cap, .int .i64 (a : Int), .slice Ap np capp, .pointer (some ⟨rb, 0, none⟩)] w (ReadPost w D rb r a n xs U pl (enc U j))
theorem PR_zero (D rb np : Nat) (U : Nat → Bool) (pl : List Int) (hnp : pl.length = np) (hnp2 : np ≤ 64) (hpl : ∀ k, U k = true → (k : Int) ∈ pl) : PR D rb np U pl 0 := by
  intro w r xs A Ap cap capp n a q amp soft hn ha ha2 hamp hl hcap hx hA hP hR hD hxl
  have hn1 : n = 1 := hn
  subst hn1
  match soft, hl with
  | [x], _ => exact polarRead_0 D rb U pl w r xs A Ap cap np capp a x amp hnp hnp2 (by omega) (hpl a) (hx 0 (by simp)) hA hP hR hD (by omega)

theorem fdr_is0 {op : BinOp} {k : FloatKind} {x y r : Nat} (h : floatBits op k x y = some r) : fdr op k x y = 0 := by simp [fdr, h]
theorem absW_at {w : World} {x m : Nat} : Calls Try.prog 69 #[.float .f32 x] (w.drewN m) fun e w' => e = .returned (.float .f32 (absW x)) ∧ ∃ k, w' = w.drewN k := by
  refine (impl_absW_c _ x).mono ?_
  rintro e w' ⟨rfl, rfl⟩
  exact ⟨rfl, m, rfl⟩
theorem codeOf_succ (G : Nat → Bool) (a k : Nat) : codeOf G a (k + 1) = codeOf G a k ++ [G (a + k)] := by simp [codeOf, List.range_succ]
theorem codeOf_add (G : Nat → Bool) (a n m : Nat) : codeOf G a (n + m) = codeOf G a n ++ codeOf G (a + n) m := by
  unfold codeOf
  rw [List.range_add, List.map_append, List.map_map]
  congr 1
  apply List.map_congr_left
  intro i _
  simp [Function.comp, Nat.add_assoc]

theorem ow_row {w : World} {base n : Nat} {e : TypeId} {v : Value} {xs : List Value} (h : Ow w base e v xs) (hl : xs.length = n) : w.ownsRow base e 1 v n xs := by rw [← hl]; exact h

theorem step_app1j {P : Program} {t e : TypeId} (ht : P.underlying t = some (.slice e)) {z : Value} {bytes : Nat} (hi : (P.info? e).map (fun i => (i.zero, i.size, i.bytes)) = some (some z, 1, bytes)) (hz : z.cells.size = 1) (hby : bytes ≤ 64)
    {w : World} {ops : Array Oper} {o : Oper} {a : Act} {K : Act → World → Prop} {Q : Exit → Act → World → Prop} {E : Prop} (hgd : o.guard = none) (s x : Operand)
    (ho : o.op = .call { callee := .builtin .append, args := #[s, x], argTypes := #[t, t] }) (base : Nat) (v : Value) (xs : List Value) (hs : a.eval s = v) (hown : Ow w base e v xs)
    (g c : Nat) (u : Value) (hx : a.eval x = .slice (some ⟨g, 0, none⟩) 1 c) (hc : w.cell? ⟨g, 0, none⟩ = some u) (h1 : u.oneCell' = true)
    (hlen : xs.length + 1 ≤ 1099511627776) (hbase : base ≤ w.heap.size)
    (h : ∀ v' w', Ow w' base e v' (xs ++ [u]) → Below base w w' → K (a.put o.dst v') w') : if Region.wanted o (yielded ops a.tmps) = true then Oper.wp P o a w K Q else E := by
  have hw : Region.wanted o (yielded ops a.tmps) = true := by simp [Region.wanted, hgd]
  rw [if_pos hw]
  obtain ⟨i, hi1, hi2, hi3, hi4⟩ := info_ok hi
  refine wp_append_own w s x t ho base e i z 1 bytes ht hi1 hi2 hi3 hi4 hz (by decide) v xs.length xs hs hown ⟨g, 0, none⟩ 1 c [u] hx (by simp) ?_ (by simpa using h1) ?_ ?_ hbase ?_
  · intro j u' hu
    have e1 : (⟨g, 0, none⟩ : Addr).add j = ⟨g, j, none⟩ := by unfold Addr.add; split <;> simp_all
    rw [e1]
    cases j with
    | zero => cases hu; exact hc
    | succ j => cases hu
  · unfold maxLen; omega
  · have h2 : (xs.length + 1) * bytes ≤ 1099511627776 * 64 := Nat.mul_le_mul hlen hby
    omega
  · intro v' w' h2 h3 _
    refine h v' w' ?_ ((Below.refl base w).grown h3 hbase fun k hk => (World.ownsRow.lt hown k hk).1)
    unfold Ow
    rw [List.length_append, List.length_singleton]
    exact h2

theorem grown_below {w w' : World} {B : Nat} (h : w.grownBy w' none) (hB : B ≤ w.heap.size) : Below B w w' := (Below.refl _ _).grown h hB (by simp)


set_option maxRecDepth 100000 in
set_option maxHeartbeats 8000000 in
theorem PR_step (D rb np : Nat) (U : Nat → Bool) (pl : List Int) (j : Nat) (hj : j ≤ 4) (IH : PR D rb np U pl j) : PR D rb np U pl (j + 1) := by
  intro w r xs A Ap cap capp n a q amp soft hn ha ha2 hamp hl hcap hx hA hP hR hD hxl
  obtain ⟨h, hh⟩ : ∃ h, 2 ^ j = h := ⟨_, rfl⟩
  have hn2 : n = h + h := by rw [hn, Nat.pow_succ, hh]; omega
  have hh1 : 1 ≤ h := by rw [← hh]; exact Nat.pow_pos (by decide)
  have hsl := hA.sl
  obtain ⟨b, off, rfl, hbb, hc0⟩ := hsl.get 0 (by omega)
  have hcells : ∀ i (hi : i < n), w.cell? ⟨b, off + i, none⟩ = some (.float .f32 (soft.getD i 0)) := by
    intro i hi
    obtain ⟨b', off', e', _, h3⟩ := hsl.get i (by omega)
    cases e'
    rw [h3, List.getD_eq_getElem?_getD, List.getElem?_eq_getElem (by omega)]
    rfl
  have hamps : ∀ i, i < n → Amp amp (enc U (j + 1) (a + i)) (soft.getD i 0) := by
    intro i hi
    rw [List.getD_eq_getElem?_getD, List.getElem?_eq_getElem (by omega)]
    exact hx i (by omega)
  have hf1 : ∀ i, i < h → enc U (j + 1) (a + i) = (enc U j (a + i) != enc U j (a + h + i)) := by
    intro i hi
    have := enc_first (f := U) (j := j) (a := q) i (by rw [hh]; exact hi)
    rw [← hn, ← ha, hh] at this
    rw [this, show a + i + h = a + h + i by omega]
  have hf2 : ∀ i, i < h → enc U (j + 1) (a + (h + i)) = enc U j (a + h + i) := by
    intro i hi
    have := enc_second (f := U) (j := j) (a := q) i (by rw [hh]; exact hi)
    rw [← hn, ← ha, hh] at this
    rw [show a + (h + i) = a + i + h by omega, this, show a + i + h = a + h + i by omega]
  obtain ⟨c1, c2, c3⟩ := hR.lt
  have hfar : b ≠ rb ∧ b ≠ r := by
    rcases hA with h0 | ⟨b', off', e', _, g1, g2, _⟩
    · exfalso
      have := congrArg List.length h0
      simp at this
      subst this
      simp at hl
      omega
    · cases e'
      exact ⟨g1, g2⟩
  have HA := Lib.hid hA
  have HP := Lib.hid hP
  have HR := Lib.hid hR
  have HC := Lib.hid hcells
  have HAM := Lib.hid hamps
  have HF1 := Lib.hid hf1
  have HF2 := Lib.hid hf2
  have HHH := Lib.hid hh
  have HNN := Lib.hid hn
  have HAQ := Lib.hid ha
  have hq : (n : Int).tdiv 2 = (h : Int) := by rw [Int.tdiv_eq_ediv_of_nonneg (by omega)]; omega
  have hq2 : (n : Int) / 2 = (h : Int) := by omega
  have hn1 : ((n : Int) == 1) = false := by simp; omega
  have hhn : h ≤ n := by omega
  have hhc : h ≤ cap := by omega
  have hhn2 : h < n := by omega
  have hhc2 : h < cap := by omega
  have hh16 : h ≤ 16 := by omega
  have hnh : n - h = h := by omega
  have hah : a + h + h ≤ 32 := by omega
  have hxl2 : xs.length + h + h ≤ 64 := by omega
  have HN2 := Lib.hid hn2
  clear hx hA hP hR hcells hamps hf1 hf2 hh hn hn2 ha hsl hc0
  unfold ReadPost
  go_enter Try.func41, Try.ntmps41
  go_wp2_with fail
  go_quiet (fail)
  go_wp2_with fail
  obtain ⟨w0, ew0⟩ : ∃ w0 : World, w0 = w.drewN nq := ⟨_, rfl⟩
  have hb0 : Below w.heap.size w (w0.alloc (.cells #[] 29)) := by rw [ew0]; exact (below_drewN (Below.refl _ _) _).alloc (Nat.le_refl _) _
  have hz0 : w0.heap.size = w.heap.size := by rw [ew0]; rfl
  have ho0 := own_empty w0 w.heap.size 29 (by omega)
  rw [← ew0]
  rw [hz0] at ho0
  go_loopw [12, 58] (fun v i wr => ∃ k : Nat, k ≤ h ∧ i = .int .i64 (k : Int) ∧ Ow wr w.heap.size 29 v ((lowL soft h k).map (Value.float .f32)) ∧ Below w.heap.size w wr) (fun _ i _ => h - (intOf i).toNat)
  case atStart => exact ⟨0, Nat.zero_le _, rfl, ho0, hb0⟩
  case round =>
    clear ho0 hb0 ew0
    obtain ⟨k, hk, rfl, ho, hb⟩ := hrel
    obtain ⟨wo, rfl⟩ : ∃ wo : World, wo = wr := ⟨_, rfl⟩
    have hz := hb.size
    by_cases hlt : k < h
    · have cx := (hb.cell (p := ⟨b, off + k, none⟩) hbb).trans (HC.out k (by omega))
      have cy := (hb.cell (p := ⟨b, off + (h + k), none⟩) hbb).trans (HC.out (h + k) (by omega))
      rw [← Nat.add_assoc] at cy
      have mx := HAM.out k (by omega)
      have my := HAM.out (h + k) (by omega)
      have hst := lowL_succ soft h k
      have hlen : ((lowL soft h k).map (Value.float .f32)).length + 1 ≤ 1099511627776 := by rw [List.length_map, lowL_len]; omega
      obtain ⟨x, hx⟩ : ∃ x, soft.getD k 0 = x := ⟨_, rfl⟩
      obtain ⟨y, hy⟩ : ∃ y, soft.getD (h + k) 0 = y := ⟨_, rfl⟩
      rw [hx] at cx mx hst
      rw [hy] at cy my hst
      obtain ⟨c, hc⟩ : ∃ c, enc U (j + 1) (a + k) = c := ⟨_, rfl⟩
      obtain ⟨d, hd⟩ : ∃ d, enc U (j + 1) (a + (h + k)) = d := ⟨_, rfl⟩
      rw [hc] at mx
      rw [hd] at my
      have ox := mx.order (by omega)
      have oy := my.order (by omega)
      have bx := abs_amp (by omega) mx
      have by_ := abs_amp (by omega) my
      have hmin := fun (W : World) (t : Array TypeId) (ty : TypeId) => run_min32 (P := Try.prog) W t ty (low_fin32 (by omega) bx.low) (low_fin32 (by omega) by_.low) bx.sgn
      have HST := Lib.hid hst
      clear hst hx hy hc hd mx my bx by_
      cases c <;> cases d <;> simp only [if_true, Bool.false_eq_true, if_false] at ox oy
      all_goals
        have hlow : lowW x y = lowW x y := rfl
        conv at hlow => rhs; unfold lowW; rw [ox, oy]
        first
          | rw [if_pos (by rfl)] at hlow
          | rw [if_neg (by decide)] at hlow
        have HLW := Lib.hid hlow
        clear hlow
        go_wp2_with fail
        go_quiet ((go_at_call 69; exact absW_at))
        go_wp2_with (at_builtin; refine app1 Try.underlying30 infoFloat32 rfl (by decide) rfl _ _ rfl _ _ _ rfl (own_dalloc ho _) _ _ _ rfl (cell_new1 _ _ _) rfl hlen (by simp; omega) ?_; intro v' w1 ho1 hb1)
        go_roundw
        case rel =>
          refine ⟨k + 1, by omega, by go_num, ?_, ((below_drewN hb _).alloc hz _).trans hb1⟩
          rw [HST.out, HLW.out, List.map_append]
          exact ho1
        case measure => simp [intOf]; omega
    · have hkh : k = h := by omega
      subst hkh
      have hamp1 : ∀ i (hi : i < (lowL soft k k).length), Amp amp (enc U j (a + i)) (lowL soft k k)[i] := by
        intro i hi
        have hi2 : i < k := by rw [lowL_len] at hi; exact hi
        have h1 := HAM.out i (by omega)
        have h2 := HAM.out (k + i) (by omega)
        rw [HF1.out i hi2] at h1
        rw [HF2.out i hi2] at h2
        have h3 := lowW_amp (by omega) h1 h2
        rw [bne_can] at h3
        simpa [lowL] using h3
      obtain ⟨A1, cap1, rfl, hc1, hS1⟩ := ho.sl
      rw [List.length_map, lowL_len] at hc1 ho ⊢
      have hfo := Far.of_own (ow_row ho (by rw [List.length_map, lowL_len])) (show rb < w.heap.size from c1) (show r < w.heap.size from c2)
      have hkp := Kp.of_below (rb := rb) (r := r) hb
      have HIH := Lib.hid (IH wo r xs A1 Ap cap1 capp k a (q + q) amp (lowL soft k k) HHH.out.symm (by rw [HAQ.out, HN2.out, Nat.mul_add, Nat.add_mul]) (by omega) (by omega) (lowL_len _ _ _) hc1 hamp1 hfo (HP.out.kp hkp) (HR.out.below hb) (by omega) (by omega))
      have HKP := Lib.hid hkp
      have hrw : rb < wo.heap.size := by omega
      clear hamp1 hfo hkp ho hS1 hb hz
      go_wp2_with fail
      refine HIH.out.mono ?_
      rintro e w1 ⟨u, r1, B1, rfl, hk1, hr1, hu, hB1, hrB⟩
      obtain ⟨A2, cap2, rfl, hc2, hSu⟩ := hu.sl
      rw [List.length_map, codeOf_len] at hc2 ⊢
      have hkt := HKP.out.trans hk1
      have HKT := Lib.hid hkt
      have hDw1 : D ≤ w1.heap.size := Nat.le_trans hD hkt.size
      have hbb1 : b < w1.heap.size := Nat.lt_of_lt_of_le hbb hkt.size
      have hfb : ∀ i, w1.cell? ⟨b, i, none⟩ = w.cell? ⟨b, i, none⟩ := fun i => cell_of_heap (hkt.block b hbb hfar.1 hfar.2)
      have HFB := Lib.hid hfb
      have HR1 := Lib.hid hr1
      have HU := Lib.hid hu
      have HSU := Lib.hid hSu
      have hrbB : rb < B1 := Nat.lt_of_lt_of_le hrw hB1
      clear hk1 hr1 hu hSu hkt hfb HIH HKP
      go_wp2_with fail
      have ho2 := own_empty w1 w1.heap.size 29 (Nat.le_refl _)
      have hb2 : Below w1.heap.size w1 (w1.alloc (.cells #[] 29)) := (Below.refl _ _).alloc (Nat.le_refl _) _
      go_loopw [12, 94] (fun v i wr => ∃ t : Nat, t ≤ k ∧ i = .int .i64 (t : Int) ∧ Ow wr w1.heap.size 29 v ((sumL (fun i => enc U j (a + i)) soft k t).map (Value.float .f32)) ∧ Below w1.heap.size w1 wr) (fun _ i _ => k - (intOf i).toNat)
      case atStart => exact ⟨0, Nat.zero_le _, rfl, ho2, hb2⟩
      case round =>
        clear ho2 hb2
        obtain ⟨t, ht, rfl, ho, hb⟩ := hrel
        obtain ⟨wi, rfl⟩ : ∃ wi : World, wi = wr := ⟨_, rfl⟩
        have hz := hb.size
        by_cases hlt2 : t < k
        · have cx := ((hb.cell (p := ⟨b, off + t, none⟩) hbb1).trans (HFB.out _)).trans (HC.out t (by omega))
          have cy := ((hb.cell (p := ⟨b, off + (k + t), none⟩) hbb1).trans (HFB.out _)).trans (HC.out (k + t) (by omega))
          rw [← Nat.add_assoc] at cy
          obtain ⟨bu, ou, rfl, hbu, cu⟩ := (HSU.out.below hb).get t (by rw [codeOf_len]; exact hlt2)
          have e1 : (codeOf (enc U j) a k)[t]'(by rw [codeOf_len]; exact hlt2) = enc U j (a + t) := by simp [codeOf]
          rw [e1] at cu
          have mx := HAM.out t (by omega)
          have my := HAM.out (k + t) (by omega)
          rw [HF1.out t hlt2] at mx
          rw [HF2.out t hlt2] at my
          have hst := sumL_succ (fun i => enc U j (a + i)) soft k t
          have hlen : ((sumL (fun i => enc U j (a + i)) soft k t).map (Value.float .f32)).length + 1 ≤ 1099511627776 := by rw [List.length_map, sumL_len]; omega
          obtain ⟨x, hx⟩ : ∃ x, soft.getD t 0 = x := ⟨_, rfl⟩
          obtain ⟨y, hy⟩ : ∃ y, soft.getD (k + t) 0 = y := ⟨_, rfl⟩
          rw [hx] at cx mx hst
          rw [hy] at cy my hst
          obtain ⟨c, hc⟩ : ∃ c, enc U j (a + t) = c := ⟨_, rfl⟩
          obtain ⟨d, hd⟩ : ∃ d, enc U j (a + k + t) = d := ⟨_, rfl⟩
          rw [hc] at cu mx hst
          rw [hd] at mx my
          clear hx hy hc hd e1
          cases c
          · have e : (false != d) = d := by cases d <;> rfl
            rw [e] at mx
            obtain ⟨z, hz1, _⟩ := add_amp (by omega) my mx
            have f1 := fun t d => fres_vop hz1 t d
            have f2 := fdr_is0 hz1
            have hv : sumW false x y = vop .add y x := rfl
            rw [hv] at hst
            have HST := Lib.hid hst
            clear hst hz1 mx my hv e
            go_wp2_with (at_builtin; refine app1 Try.underlying30 infoFloat32 rfl (by decide) rfl _ _ rfl _ _ _ rfl (own_dalloc ho _) _ _ _ rfl (cell_new1 _ _ _) rfl hlen (by simp; omega) ?_; intro v' w5 ho1 hb1)
            go_roundw
            case rel =>
              refine ⟨t + 1, by omega, by go_num, ?_, ((below_drewN hb _).alloc hz _).trans hb1⟩
              rw [HST.out, List.map_append]
              exact ho1
            case measure => simp [intOf]; omega
          · have e : (true != d) = !d := by cases d <;> rfl
            rw [e] at mx
            obtain ⟨z, hz1, _⟩ := sub_amp (by omega) my mx
            have f1 := fun t d => fres_vop hz1 t d
            have f2 := fdr_is0 hz1
            have hv : sumW true x y = vop .sub y x := rfl
            rw [hv] at hst
            have HST := Lib.hid hst
            clear hst hz1 mx my hv e
            go_wp2_with (at_builtin; refine app1 Try.underlying30 infoFloat32 rfl (by decide) rfl _ _ rfl _ _ _ rfl (own_dalloc ho _) _ _ _ rfl (cell_new1 _ _ _) rfl hlen (by simp; omega) ?_; intro v' w5 ho1 hb1)
            go_roundw
            case rel =>
              refine ⟨t + 1, by omega, by go_num, ?_, ((below_drewN hb _).alloc hz _).trans hb1⟩
              rw [HST.out, List.map_append]
              exact ho1
            case measure => simp [intOf]; omega
        · have htk : t = k := by omega
          subst htk
          have hamp2 : ∀ i (hi : i < (sumL (fun i => enc U j (a + i)) soft t t).length), Amp (amp + 2) (enc U j (a + t + i)) (sumL (fun i => enc U j (a + i)) soft t t)[i] := by
            intro i hi
            have hi2 : i < t := by rw [sumL_len] at hi; exact hi
            have h1 := HAM.out i (by omega)
            have h2 := HAM.out (t + i) (by omega)
            rw [HF1.out i hi2] at h1
            rw [HF2.out i hi2] at h2
            have h3 := sumW_amp (by omega) h1 h2
            rw [bne_can] at h3
            simpa [sumL] using h3
          obtain ⟨A3, cap3, rfl, hc3, hS3⟩ := ho.sl
          rw [List.length_map, sumL_len] at hc3 ⊢
          have hrl := HR1.out.lt
          have hkp := Kp.of_below (rb := rb) (r := r1) hb
          have hfo := Far.of_own (ow_row ho (by rw [List.length_map, sumL_len])) (show rb < w1.heap.size by omega) (show r1 < w1.heap.size by omega)
          have hrd := readsOf_len U pl a t
          have hxl3 : (xs ++ (readsOf U pl a t).map Value.bool).length + t ≤ 64 := by rw [List.length_append, List.length_map]; omega
          have hw3 : IntKind.i64.wrap ((a : Int) + (t : Int)) = ((a + t : Nat) : Int) := by rw [IntWalk.i64_in _ (by omega)]; omega
          have hw4 : wrap64 ((a : Int) + (t : Int)) = ((a + t : Nat) : Int) := by rw [IntWalk.wrap64_in _ (by omega)]; omega
          have HIH := Lib.hid (IH wi r1 (xs ++ (readsOf U pl a t).map Value.bool) A3 Ap cap3 capp t (a + t) (q + q + 1) (amp + 2) (sumL (fun i => enc U j (a + i)) soft t t) HHH.out.symm (by rw [HAQ.out, HN2.out, Nat.mul_add, Nat.mul_add, Nat.add_mul, Nat.mul_one]) hah (by omega) (sumL_len _ _ _ _) hc3 hamp2 hfo ((HP.out.kp HKT.out).kp hkp) (HR1.out.below hb) (by omega) hxl3)
          have HKP := Lib.hid (HKT.out.trans hkp)
          have HU2 := Lib.hid (own_below HU.out hb (Nat.le_refl _))
          have HUF := Lib.hid ((Far.of_own (ow_row HU.out (by rw [List.length_map, codeOf_len])) hrbB hrB).kp hkp)
          clear hamp2 hfo hkp ho hS3
          go_wp2_with fail
          rw [← Int.natCast_add]
          refine HIH.out.mono ?_
          rintro e w2 ⟨v, r2, B2, rfl, hk2, hr2, hv, hB2, hrB2⟩
          obtain ⟨A4, cap4, rfl, hc4, hSv⟩ := hv.sl
          rw [List.length_map, codeOf_len] at hc4 ⊢
          have hkt2 := HKP.out.trans hk2
          have hSu2 := (HUF.out.kp hk2).sl
          have hz2 : w.heap.size ≤ w2.heap.size := hkt2.size
          have HK2 := Lib.hid hkt2
          have HR2 := Lib.hid hr2
          have HSU2 := Lib.hid hSu2
          have HSV := Lib.hid hSv
          have HV := Lib.hid hv
          clear hkt2 hr2 hSu2 hSv hv hk2 HIH
          go_wp2_with fail
          have ho5 := own_empty w2 w2.heap.size 4 (Nat.le_refl _)
          have hb5 : Below w2.heap.size w2 (w2.alloc (.cells #[] 4)) := (Below.refl _ _).alloc (Nat.le_refl _) _
          clear ha2 hamp hl hcap hxl hbb c1 c2 c3 hfar hn1 hz0 hrw hB1 hrB hDw1 hbb1 hrbB hb hz hq hq2 hhn hhc hhn2 hhc2 hnh hah hxl2 hk hlt hc1 hc2 hc3 hc4 hxl3 hrd hrl hw3 hw4 hB2 hrB2 ht hlt2 hD
          go_loopw [20, 133] (fun v i wr => ∃ s : Nat, s ≤ t ∧ i = .int .i64 (s : Int) ∧ Ow wr w2.heap.size 4 v ((codeOf (enc U (j + 1)) a s).map Value.bool) ∧ Below w2.heap.size w2 wr) (fun _ i _ => t - (intOf i).toNat)
          case atStart => exact ⟨0, Nat.zero_le _, rfl, ho5, hb5⟩
          case round =>
            clear ho5 hb5
            obtain ⟨s, hs, rfl, ho, hb5⟩ := hrel
            obtain ⟨w5, rfl⟩ : ∃ w5 : World, w5 = wr := ⟨_, rfl⟩
            have hz5 := hb5.size
            by_cases hlt3 : s < t
            · obtain ⟨bu, ou, rfl, hbu, cu⟩ := (HSU2.out.below hb5).get s (by rw [codeOf_len]; exact hlt3)
              obtain ⟨bv, ov, rfl, hbv, cv⟩ := (HSV.out.below hb5).get s (by rw [codeOf_len]; exact hlt3)
              have e1 : (codeOf (enc U j) a t)[s]'(by rw [codeOf_len]; exact hlt3) = enc U j (a + s) := by simp [codeOf]
              have e2 : (codeOf (enc U j) (a + t) t)[s]'(by rw [codeOf_len]; exact hlt3) = enc U j (a + t + s) := by simp [codeOf]
              rw [e1] at cu
              rw [e2] at cv
              have hst := codeOf_succ (enc U (j + 1)) a s
              rw [HF1.out s hlt3] at hst
              have hlen : ((codeOf (enc U (j + 1)) a s).map Value.bool).length + 1 ≤ 1099511627776 := by rw [List.length_map, codeOf_len]; exact Nat.le_trans (Nat.succ_le_succ (Nat.le_trans hs hh16)) (by decide)
              obtain ⟨c, hc⟩ : ∃ c, enc U j (a + s) = c := ⟨_, rfl⟩
              obtain ⟨d, hd⟩ : ∃ d, enc U j (a + t + s) = d := ⟨_, rfl⟩
              rw [hc] at cu hst
              rw [hd] at cv hst
              have HST := Lib.hid hst
              have HO := Lib.hid (fun o => World.ownsRow.alloc (w := w5.drew) ho o)
              clear hst hc hd e1 e2
              have hds : w2.heap.size ≤ w5.heap.size + 1 := Nat.le_succ_of_le hz5
              go_wp2_with fail
              go_region_law (refine step_app1j Try.underlying25 infoBool rfl (by decide) (by rfl) _ _ (by rfl) w2.heap.size _ _ (by rfl) (World.ownsRow.alloc ho _) _ _ _ (by rfl) (cell_new1 _ _ _) rfl hlen (by simp; omega) ?_; intro v' w6 ho6 hb6)
              all_goals
                simp only [List.getElem_toArray, List.getElem_cons_succ, List.getElem_cons_zero, Act.put, List.setIfInBounds_toArray, List.set_cons_succ, List.set_cons_zero]
                go_wp2
                go_roundw
                case rel =>
                  refine ⟨s + 1, hlt3, by go_num, ?_, (hb5.trans ((grown_below (grown_drew_alloc w5 _) hz5))).trans hb6⟩
                  rw [HST.out, List.map_append]
                  exact ho6
                case measure => simp [intOf]; omega
            · have hst : s = t := by omega
              subst hst
              have hv2 := own_below HV.out hb5 (Nat.le_refl _)
              rcases hv2.2 with ⟨q1, q2⟩ | ⟨g, cap6, cur, q1, q2, q3, q4⟩
              · exfalso
                rw [List.length_map, codeOf_len] at q2
                omega
              · injection q1 with q5 q6 q7
                subst q5
                have hcs : ∀ j' u', ((codeOf (enc U j) (a + s) s).map Value.bool)[j']? = some u' → w5.cell? ⟨g, j', none⟩ = some u' := by
                  intro j' u' hu
                  have := World.ownsRow.cellAt hv2 j' (by simpa using (List.getElem?_eq_some_iff.1 hu).1)
                  rw [this, hu]
                have hone : ∀ u' ∈ (codeOf (enc U j) (a + s) s).map Value.bool, u'.oneCell' = true := by
                  intro u' hu
                  obtain ⟨x, _, rfl⟩ := List.mem_map.1 hu
                  rfl
                have hlen : ((codeOf (enc U (j + 1)) a s).map Value.bool).length + s ≤ 1099511627776 := by rw [List.length_map, codeOf_len]; exact Nat.le_trans (Nat.add_le_add hh16 hh16) (by decide)
                have hln : ((codeOf (enc U j) (a + s) s).map Value.bool).length = s := by rw [List.length_map, codeOf_len]
                have HCS := Lib.hid hcs
                have HONE := Lib.hid hone
                clear hcs hone q2 q3 q4 q6 hv2
                go_wp2_with (at_builtin; refine appN Try.underlying25 infoBool rfl (by decide) rfl _ _ rfl _ _ _ rfl ho g s _ _ rfl hln HCS.out HONE.out hlen hz5 ?_; intro v' w7 ho7 hb7)
                go_ret
                have hb8 := hb5.trans hb7
                have hkp := Kp.of_below (rb := rb) (r := r2) hb8
                refine ⟨_, r2, w2.heap.size, rfl, HK2.out.trans hkp, ?_, ?_, hz2, HR2.out.lt.2.1⟩
                · have e1 : readsOf U pl a n = readsOf U pl a s ++ readsOf U pl (a + s) s := by rw [HN2.out, readsOf_add]
                  rw [e1, List.map_append, ← List.append_assoc]
                  exact HR2.out.below hb8
                · have e1 : codeOf (enc U (j + 1)) a n = codeOf (enc U (j + 1)) a s ++ codeOf (enc U j) (a + s) s := by
                    rw [HN2.out, codeOf_add]
                    congr 1
                    apply List.map_congr_left
                    intro i hi
                    have := HF2.out i (List.mem_range.1 hi)
                    rw [← Nat.add_assoc] at this
                    exact this
                  rw [e1, List.map_append]
                  exact ho7

theorem PR_all (D rb np : Nat) (U : Nat → Bool) (pl : List Int) (hnp : pl.length = np) (hnp2 : np ≤ 64) (hpl : ∀ k, U k = true → (k : Int) ∈ pl) : ∀ j, j ≤ 5 → PR D rb np U pl j
  | 0, _ => PR_zero D rb np U pl hnp hnp2 hpl
  | j + 1, hj => PR_step D rb np U pl j (by omega) (PR_all D rb np U pl hnp hnp2 hpl j (by omega))

end Go.Proofs.Ytlcdcicdlfakgaa
