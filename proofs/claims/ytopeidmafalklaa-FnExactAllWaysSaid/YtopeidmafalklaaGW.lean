/-
  Contracts: the logarithm of both programs, up to the bits of a NaN.
  Conditions: the number is a NaN or between one and two.
-/
import Derived.Test.YtopeidmafalklaaGV
namespace Go.Proofs.Ytopeidmafalklaa
open Ieee Go.RowKit

def logStepO (u q : Option Nat) (k : Nat) : Option Nat := fop .add .f64 (fop .quo .f64 (some 4607182418800017408) (some k)) (fop .mul .f64 u q)
def logRowO (u : Option Nat) (i : Nat) : Option Nat := (logKs.take i).foldl (logStepO u) (some 0)
theorem logFold {u : Nat} : ∀ (ks : List Nat) (q z : Nat), logRow u ks q = some z → ks.foldl (logStepO (some u)) (some q) = some z
  | [], q, z, h => h
  | k :: ks, q, z, h => by
    unfold logRow at h
    simp only [Option.bind_eq_some_iff] at h
    obtain ⟨i, h1, a, h2, r, h3, h4⟩ := h
    rw [List.foldl_cons]
    have : logStepO (some u) (some q) k = some r := by unfold logStepO; rw [fop_some, fop_some, h1, h2, fop_some, h3]
    rw [this]
    exact logFold ks r z h4
theorem logKs13 : logKs.take 13 = logKs := by decide
def logTailO (y e : Nat) : Option Nat :=
  fop .add .f64 (fop .mul .f64 (some 4611686018427387904) (fop .mul .f64 (fop .quo .f64 (fop .sub .f64 (some y) (some 4607182418800017408)) (fop .add .f64 (some y) (some 4607182418800017408)))
    (logRowO (fop .mul .f64 (fop .quo .f64 (fop .sub .f64 (some y) (some 4607182418800017408)) (fop .add .f64 (some y) (some 4607182418800017408))) (fop .quo .f64 (fop .sub .f64 (some y) (some 4607182418800017408)) (fop .add .f64 (some y) (some 4607182418800017408)))) 13)))
    (fop .mul .f64 (some e) (some 4604418534313441775))
theorem logTailO_eq {y e d : Nat} (h : logTail y e = some d) : logTailO y e = some d := by
  unfold logTail at h
  simp only [Option.bind_eq_some_iff] at h
  obtain ⟨a, h1, b, h2, s, h3, u, h4, q, h5, a', h6, b', h7, c, h8, h9⟩ := h
  unfold logTailO logRowO
  rw [fop_some, h1, fop_some, h2, fop_some, h3, fop_some, h4, logKs13, logFold _ _ _ h5, fop_some, h6, fop_some, h7, fop_some, h8, fop_some, h9]
/-- the odd numbers 25, 23, .. 1, -1 as doubles -/
def kL (n : Nat) : Nat := floatOfInt .f64 (2 * (n : Int) - 1)
theorem kL_ks : ∀ i : Fin 13, logKs[i.val]? = some (kL (13 - i.val)) := by decide +kernel
theorem logRowO_succ (u : Option Nat) {n : Nat} (h : n < 13) : logRowO u (13 - n) = logStepO u (logRowO u (13 - (n + 1))) (kL (n + 1)) := by
  have hk := kL_ks ⟨13 - (n + 1), by omega⟩
  unfold logRowO
  rw [show 13 - n = 13 - (n + 1) + 1 by omega, List.take_add_one, List.foldl_append, hk, show 13 - (13 - (n + 1)) = n + 1 by omega]
  rfl
theorem logRowO_zero (u : Option Nat) : logRowO u (13 - 13) = some 0 := by
  unfold logRowO
  rw [Nat.sub_self, List.take_zero, List.foldl_nil]
theorem kL_test {n : Nat} (h : n ≤ 13) : (FloatKind.f64.format.order (kL n) 4607182418800017408 == some Ordering.gt || FloatKind.f64.format.order (kL n) 4607182418800017408 == some Ordering.eq) = decide (1 ≤ n) := k_test2 ⟨n, by omega⟩
theorem kL_downF : ∀ n : Fin 13, floatBits .sub .f64 (kL (n.val + 1)) 4611686018427387904 = some (kL n.val) := by decide +kernel
theorem kL_down {n : Nat} (h : n < 13) : floatBits .sub .f64 (kL (n + 1)) 4611686018427387904 = some (kL n) := by
  have h2 := kL_downF ⟨n, h⟩
  simp only at h2
  exact h2
/-- a slot's number, none below nought -/
def posOf : Value → Nat
  | .float _ b => if 9223372036854775808 ≤ b then 0 else b
  | _ => 0
theorem posOf_float (k : FloatKind) (b : Nat) : posOf (.float k b) = if 9223372036854775808 ≤ b then 0 else b := rfl
theorem kL_ltF : ∀ n : Fin 13, (if 9223372036854775808 ≤ kL n.val then 0 else kL n.val) < (if 9223372036854775808 ≤ kL (n.val + 1) then 0 else kL (n.val + 1)) := by decide +kernel
theorem posOf_lt {n : Nat} (h : n < 13) : posOf (.float .f64 (kL n)) < posOf (.float .f64 (kL (n + 1))) := by
  rw [posOf_float, posOf_float]
  have h2 := kL_ltF ⟨n, h⟩
  simp only at h2
  exact h2
theorem kL_13 : kL 13 = 4627730092099895296 := by decide +kernel
theorem kL_nnF : ∀ n : Fin 14, nanB .f64 (kL n.val) = false := by decide +kernel
theorem kL_nn {n : Nat} (h : n ≤ 13) : fl .f64 (kL n) = some (kL n) := by
  have h2 := kL_nnF ⟨n, by omega⟩
  simp only at h2
  exact fl_nn h2
theorem kL_eq {n : Nat} {k : Int} (h : k = 2 * (n : Int) - 1) : floatOfInt .f64 k = kL n := by subst h; rfl
theorem fl_two : fl .f64 4611686018427387904 = some 4611686018427387904 := by decide
theorem fl_ln2 : fl .f64 4604418534313441775 = some 4604418534313441775 := by decide
theorem half_testF {y : Nat} (h : y < 9218868437227405312) : (FloatKind.f64.format.order y 4609434218613702656 == some Ordering.gt || FloatKind.f64.format.order y 4609434218613702656 == some Ordering.eq) = decide (4609434218613702656 ≤ y) := half_test h
theorem low_testF {y : Nat} (h1 : 4604930618986332160 ≤ y) (h : y < 9218868437227405312) : (FloatKind.f64.format.order y 4604930618986332160 == some Ordering.lt) = false := low_test h1 h
theorem pos_nn {y : Nat} (h : y < 9218868437227405312) : fl .f64 y = some y := by
  refine fl_nn ?_
  rw [nanB_eq, decide_eq_false_iff_not]
  show ¬ Ieee.double.infRung < y % Ieee.double.signWeight
  rw [ir64, sw64]
  omega
theorem half_lo {y : Nat} (h : ¬ 4609434218613702656 ≤ y) : halved y = (y, 0) := by unfold halved; rw [if_neg h]
theorem half_hi {y : Nat} (h : 4609434218613702656 ≤ y) : halved y = (y - 4503599627370496, 4607182418800017408) := by unfold halved; rw [if_pos h]


set_option maxRecDepth 100000 in
set_option maxHeartbeats 1000000 in
theorem impl_naturalLog_c (w : World) (y : Nat) (h1 : 4607182418800017408 ≤ y) (h2 : y ≤ 4611686018427387904) :
    Calls Try.prog 92 #[.float .f64 y] w fun e w' => ∃ v, e = .returned (.float .f64 v) ∧ fl .f64 v = logTailO (halved y).1 (halved y).2 ∧ ∃ q, w' = w.drewN q := by
  obtain ⟨g1, g2, g3, g4⟩ := halved_is h1 h2
  obtain ⟨Y, hY⟩ : ∃ Y, (halved y).1 = Y := ⟨_, rfl⟩
  obtain ⟨E, hE⟩ : ∃ E, (halved y).2 = E := ⟨_, rfl⟩
  rw [hY] at g1 g3 g4
  rw [hE] at g2
  rw [hY, hE]
  have hYE : halved y = (Y, E) := by rw [← hY, ← hE]
  have hst : (¬ 4609434218613702656 ≤ y ∧ y = Y ∧ E = 0) ∨ (4609434218613702656 ≤ y ∧ y - 4503599627370496 = Y ∧ E = 4607182418800017408) := by
    by_cases h : 4609434218613702656 ≤ y
    · rw [half_hi h] at hYE
      obtain ⟨e1, e2⟩ := Prod.mk.inj hYE
      exact .inr ⟨h, e1, e2.symm⟩
    · rw [half_lo h] at hYE
      obtain ⟨e1, e2⟩ := Prod.mk.inj hYE
      exact .inl ⟨h, e1, e2.symm⟩
  have hst0 : (y = Y ∧ E = 0) ∨ (4609434218613702656 ≤ y ∧ floatBits .quo .f64 y 4611686018427387904 = some Y ∧ E = 4607182418800017408) := by
    rcases hst with ⟨_, e1, e2⟩ | ⟨e0, e1, e2⟩
    · exact .inl ⟨e1, e2⟩
    · exact .inr ⟨e0, by rw [← e1]; exact half_step e0 (by omega), e2⟩
  have hyf : y < 9218868437227405312 := by omega
  have hlty : ∀ z, 4609434218613702656 ≤ y → Y = z → z < y := by
    intro z h e
    omega
  clear hst hYE hY hE
  obtain ⟨a, b, s, u, ha, hb, hs, _, hu, _⟩ := log_quo (y := Y) g1
  have a1 := fres_one ha
  have a2 := fdr_one ha
  have b1 := fres_one hb
  have b2 := fdr_one hb
  have s1 := fres_one hs
  have s2 := fdr_one hs
  have u1 := fres_one hu
  have u2 := fdr_one hu
  have hsn : fl .f64 s = some s := fl_nn (floatBits_nn hs)
  have hun : fl .f64 u = some u := fl_nn (floatBits_nn hu)
  have htail : logTailO Y E = fop .add .f64 (fop .mul .f64 (some 4611686018427387904) (fop .mul .f64 (some s) (logRowO (some u) 13))) (fop .mul .f64 (some E) (some 4604418534313441775)) := by
    unfold logTailO
    rw [fop_some, ha, fop_some, hb, fop_some, hs, fop_some, hu]
  have HTL := Lib.hid htail
  have HSN := Lib.hid hsn
  have HUN := Lib.hid hun
  clear ha hb hs hu htail hsn hun
  have HLT := Lib.hid hlty
  clear hlty
  have hEn : fl .f64 E = some E := pos_nn (by omega)
  have hYn : fl .f64 Y = some Y := pos_nn (by omega)
  have HEN := Lib.hid hEn
  have HYN := Lib.hid hYn
  have HST := Lib.hid hst0
  have htY := half_testF (y := Y) (by omega)
  rw [decide_eq_false (by omega)] at htY
  have hlY := low_testF g3 (by omega)
  clear hEn hYn hst0 g1 g3 g4
  go_enter Try.func92, Try.ntmps92
  go_wp2
  go_loopw [0, 3] (fun x e wr => ((x = .float .f64 Y ∧ e = .float .f64 E) ∨ (x = .float .f64 y ∧ e = .float .f64 0 ∧ 4609434218613702656 ≤ y ∧ floatBits .quo .f64 y 4611686018427387904 = some Y ∧ E = 4607182418800017408)) ∧ ∃ q, wr = w.drewN q) (fun x _ _ => floOf x)
  case atStart =>
    refine ⟨?_, 0, rfl⟩
    rcases HST.out with ⟨e1, e2⟩ | ⟨e0, e1, e2⟩
    · rw [e1, e2]; exact .inl ⟨rfl, rfl⟩
    · exact .inr ⟨rfl, rfl, e0, e1, e2⟩
  case round =>
    obtain ⟨hr, q0, rfl⟩ := hrel
    rcases hr with ⟨rfl, rfl⟩ | ⟨rfl, rfl, e0, e1, e2⟩
    · clear h1 h2 g2 HST hyf HLT
      go_wp2
      go_loopw [0, 3] (fun x e wr => x = .float .f64 Y ∧ e = .float .f64 E ∧ ∃ q, wr = w.drewN q) (fun x _ _ => 0)
      case atStart => exact ⟨rfl, rfl, q0, rfl⟩
      case round =>
        clear q0
        obtain ⟨rfl, rfl, q0, rfl⟩ := hrel
        go_wp2
        go_loopw [6, 7] (fun p k wr => ∃ n q b : Nat, n ≤ 13 ∧ k = .float .f64 (kL n) ∧ p = .float .f64 b ∧ fl .f64 b = logRowO (some u) (13 - n) ∧ wr = w.drewN q) (fun _ k _ => posOf k)
        case atStart => exact ⟨13, _, 0, Nat.le_refl _, by rw [kL_13], rfl, by rw [fl0d]; exact (logRowO_zero _).symm, rfl⟩
        case round =>
          clear q0 htY hlY
          obtain ⟨n, q, b, hn, rfl, rfl, hb, rfl⟩ := hrel
          have HB := Lib.hid hb
          clear hb
          have htest := kL_test hn
          cases n with
          | zero =>
            rw [decide_eq_false (by omega)] at htest
            go_wp2
            go_ret
            refine ⟨_, rfl, ?_, _, rfl⟩
            rw [HTL.out, fl_fres, fl_fres, fl_fres, fl_fres, HB.out, HSN.out, HEN.out, fl_two, fl_ln2]
          | succ n =>
            rw [decide_eq_true (by omega)] at htest
            have hd := kL_down (n := n) (by omega)
            have hd1 := fres_one hd
            have hd2 := fdr_one hd
            clear hd
            go_wp2
            go_roundw
            case rel => exact ⟨n, _, _, by omega, rfl, rfl, by rw [fl_fres, fl_fres, fl_fres, HB.out, HUN.out, fl_one, kL_nn hn]; exact (logRowO_succ _ (show n < 13 by omega)).symm, rfl⟩
            case measure => exact posOf_lt (by omega)
    · have ht := half_testF hyf
      rw [decide_eq_true e0] at ht
      have hd1 := fres_one e1
      have hd2 := fdr_one e1
      have e3 : floatBits .add .f64 0 4607182418800017408 = some E := by rw [e2]; decide +kernel
      have hd3 := fres_one e3
      have hd4 := fdr_one e3
      have HE0 := Lib.hid e0
      clear e1 e3 e0 e2 h1 h2 g2 HST hyf htY hlY
      go_wp2
      go_roundw
      case rel => exact ⟨.inl ⟨rfl, rfl⟩, _, rfl⟩
      case measure => rw [floOf_float, floOf_float]; exact HLT.out _ HE0.out rfl

/-- what the logarithm gives for a NaN or a number from one to two -/
def Sum12 (z : Nat) : Prop := nanB .f32 z = true ∨ (1065353216 ≤ z ∧ z ≤ 1073741824)
def logO (z : Option Nat) : Option Nat := z.bind logNum
theorem sum12_abs {z : Nat} (h1 : 1065353216 ≤ z) (h2 : z ≤ 1073741824) : absF z = z ∧ sgnF z = false := by
  unfold absF sgnF
  refine ⟨by omega, ?_⟩
  rw [show z / 2147483648 = 0 by omega]
  rfl
theorem ord_zero {z : Nat} (h1 : 1065353216 ≤ z) (h2 : z ≤ 1073741824) : FloatKind.f32.format.order z 0 = some .gt := by
  obtain ⟨a1, a2⟩ := sum12_abs h1 h2
  show single.order z 0 = _
  rw [order_valF (by omega) (by decide)]
  have e : valF z = (VF z : Int) := by unfold valF; rw [a1, a2]; rfl
  have hv := VF_lt (a := 0) (b := z) (by omega) (by omega)
  have e0 : valF 0 = 0 := by decide
  have h0 : VF 0 = 0 := by decide
  rw [e, e0, cmp_cases, if_neg (by omega), if_neg (by omega)]
theorem fin_B {z : Nat} (h1 : 1065353216 ≤ z) (h2 : z ≤ 1073741824) : finB (fl .f32 z) = true := low_fin (a := 2) (by decide) (by unfold Low; omega)
theorem log_parts {z : Nat} (h1 : 1065353216 ≤ z) (h2 : z ≤ 1073741824) : ∃ y d r, floatToFloatBits .f32 z .f64 = some y ∧ 4607182418800017408 ≤ y ∧ y ≤ 4611686018427387904 ∧ logTailO (halved y).1 (halved y).2 = some d ∧ floatToFloatBits .f64 d .f32 = some r ∧ logNum z = some r := by
  obtain ⟨y, hy, y1, y2⟩ := widen_12 h1 h2
  obtain ⟨g1, g2, _, _⟩ := halved_is y1 y2
  obtain ⟨d, r, hd, hr, _⟩ := logTail_some g1 g2
  refine ⟨y, d, r, hy, y1, y2, logTailO_eq hd, hr, ?_⟩
  unfold logNum
  rw [hy]; simp only [Option.bind_some]
  rw [hd]; exact hr
theorem ord_max {y : Nat} (h2 : y ≤ 4611686018427387904) : (FloatKind.f64.format.order y 9218868437227405311 == some Ordering.gt) = false := by
  show (double.order y 9218868437227405311 == some Ordering.gt) = false
  rw [order_wordsD (by omega) (by decide), cmp_gtB]
  exact decide_eq_false (by omega)
theorem ord_zeroD {y : Nat} (h1 : 4607182418800017408 ≤ y) (h2 : y ≤ 4611686018427387904) : FloatKind.f64.format.order y 0 = some .gt := by
  show double.order y 0 = _
  rw [order_wordsD (by omega) (by decide), cmp_cases, if_neg (by omega), if_neg (by omega)]


set_option maxRecDepth 100000 in
theorem run_f64frombits (b : Nat) (w : World) : (callFunc 97 #[.int .u64 (b : Int)]).run Try.prog w = .ok (.value (.float .f64 b)) w :=
  (run_callFunc_extern (e := Extern.MathFloatBits.float64frombits) Try.func97 (by kernel_rfl) (by kernel_rfl) (by kernel_rfl) (by kernel_rfl) _ w).trans rfl
set_option maxRecDepth 100000 in
theorem NaN_c (w : World) : Calls Try.prog 91 #[] w fun e w' => e = .returned (.float .f64 9221120237041090561) ∧ w = w' := by
  have hf : ∀ W : World, (callFunc 97 #[.int .u64 9221120237041090561]).run Try.prog W = .ok (.value (.float .f64 9221120237041090561)) W := fun W => run_f64frombits 9221120237041090561 W
  go_enter Try.func91, Try.ntmps91
  go_wp2
  go_ret
  exact ⟨rfl, rfl⟩
theorem nan_D : fl .f64 9221120237041090561 = none := by decide


set_option maxRecDepth 100000 in
theorem IsInf_c (w : World) (y : Nat) (h2 : y ≤ 4611686018427387904) : Calls Try.prog 96 #[.float .f64 y, .int .i64 1] w fun e w' => e = .returned (.bool false) ∧ w = w' := by
  have h := ord_max h2
  go_enter Try.func96, Try.ntmps96
  go_wp2
  go_ret
  exact ⟨rfl, rfl⟩


set_option maxRecDepth 100000 in
set_option maxHeartbeats 1000000 in
theorem impl_LogNumber_c (w : World) (z : Nat) (hz : Sum12 z) : Calls Try.prog 78 #[.float .f32 z] w fun e w' => ∃ v, e = .returned (.float .f32 v) ∧ fl .f32 v = logO (fl .f32 z) ∧ ∃ q, w' = w.drewN q := by
  rcases hz with hn | ⟨h1, h2⟩
  · have o1 := order_nan .f32 z 0 hn
    have o2 := order_nan .f32 z z hn
    have hv : ∀ t d, fl .f32 (fcv .f64 9221120237041090561 .f32 t d) = none := fun t d => by
      rw [fl_narrow (fun y hy => by rw [nan_D] at hy; cases hy), nan_D]
      rfl
    rw [fl_nan hn]
    have HV := Lib.hid hv
    clear hv
    go_enter Try.func78, Try.ntmps78
    go_wp2_with (go_at_call 91; refine (NaN_c _).mono ?_; rintro e w' ⟨rfl, rfl⟩)
    go_ret
    exact ⟨_, rfl, HV.out _ _, _, rfl⟩
  · have o1 := ord_zero h1 h2
    have hfl : fl .f32 z = some z := fl_nn (fin_nn (by rw [(sum12_abs h1 h2).1]; omega))
    have o2 := order_self .f32 z (fl_inv hfl).2
    have hfin := fin_B h1 h2
    obtain ⟨y, d, r, hy, y1, y2, hd, hr, hl⟩ := log_parts h1 h2
    have e1 := fcv_val hy
    have e2 := fcvd_val hy
    have HC := Lib.hid fun W => impl_naturalLog_c W y y1 y2
    have hval : ∀ b t k, fl .f64 b = logTailO (halved y).1 (halved y).2 → fl .f32 (fcv .f64 b .f32 t k) = logO (fl .f32 z) := fun b t k hb => by
      rw [hd] at hb
      rw [fl_narrow (fun u hu => by rw [hb] at hu; cases hu; exact ⟨r, hr⟩), hb, hfl]
      exact hr.trans hl.symm
    have HV := Lib.hid hval
    clear hval hy hd hr hl hfl
    go_enter Try.func78, Try.ntmps78
    go_wp2_with (first
      | (go_at_call 60; refine (impl_IsFinite_c _ z).mono ?_; rintro e w' ⟨rfl, q, rfl⟩; rw [hfin])
      | (go_at_call 92; refine (HC.out _).mono ?_; rintro e w' ⟨b, rfl, hb, q2, rfl⟩))
    go_ret
    exact ⟨_, rfl, HV.out _ _ _ hb, _, rfl⟩


set_option maxRecDepth 100000 in
set_option maxHeartbeats 1000000 in
theorem spec_l01LogWide_nan_c (w : World) (y : Nat) (hn : nanB .f64 y = true) : Calls Try.prog 87 #[.float .f64 y] w fun e w' => ∃ v, e = .returned (.float .f64 v) ∧ fl .f64 v = none ∧ w = w' := by
  have o2 := order_nan .f64 y y hn
  go_enter Try.func87, Try.ntmps87
  go_wp2_with (go_at_call 91; refine (NaN_c _).mono ?_; rintro e w' ⟨rfl, rfl⟩)
  go_ret
  exact ⟨_, rfl, nan_D, rfl⟩


set_option maxRecDepth 100000 in
set_option maxHeartbeats 2000000 in
theorem spec_l01LogWide_c (w : World) (y : Nat) (h1 : 4607182418800017408 ≤ y) (h2 : y ≤ 4611686018427387904) :
    Calls Try.prog 87 #[.float .f64 y] w fun e w' => ∃ v, e = .returned (.float .f64 v) ∧ fl .f64 v = logTailO (halved y).1 (halved y).2 ∧ ∃ q, w' = w.drewN q := by
  obtain ⟨g1, g2, g3, g4⟩ := halved_is h1 h2
  have o1 := ord_zeroD h1 h2
  have o2 := order_self .f64 y (fl_inv (pos_nn (y := y) (by omega))).2
  have HI := Lib.hid fun W => IsInf_c W y h2
  obtain ⟨Y, hY⟩ : ∃ Y, (halved y).1 = Y := ⟨_, rfl⟩
  obtain ⟨E, hE⟩ : ∃ E, (halved y).2 = E := ⟨_, rfl⟩
  rw [hY] at g1 g3 g4
  rw [hE] at g2
  rw [hY, hE]
  have hYE : halved y = (Y, E) := by rw [← hY, ← hE]
  have hst : (¬ 4609434218613702656 ≤ y ∧ y = Y ∧ E = 0) ∨ (4609434218613702656 ≤ y ∧ y - 4503599627370496 = Y ∧ E = 4607182418800017408) := by
    by_cases h : 4609434218613702656 ≤ y
    · rw [half_hi h] at hYE
      obtain ⟨e1, e2⟩ := Prod.mk.inj hYE
      exact .inr ⟨h, e1, e2.symm⟩
    · rw [half_lo h] at hYE
      obtain ⟨e1, e2⟩ := Prod.mk.inj hYE
      exact .inl ⟨h, e1, e2.symm⟩
  have hst0 : ∃ j : Nat, j ≤ 1 ∧ floatOfInt .f64 (j : Int) = E ∧ ((y = Y ∧ j = 0) ∨ (4609434218613702656 ≤ y ∧ floatBits .quo .f64 y 4611686018427387904 = some Y ∧ j = 1)) := by
    rcases hst with ⟨_, e1, e2⟩ | ⟨e0, e1, e2⟩
    · exact ⟨0, by omega, by rw [e2]; exact one_is.2, .inl ⟨e1, rfl⟩⟩
    · exact ⟨1, by omega, by rw [e2]; exact one_is.1, .inr ⟨e0, by rw [← e1]; exact half_step e0 (by omega), rfl⟩⟩
  obtain ⟨J, hJ, hJE, hst1⟩ := hst0
  have hyf : y < 9218868437227405312 := by omega
  have hlty : ∀ z, 4609434218613702656 ≤ y → Y = z → z < y := by
    intro z h e
    omega
  clear hst hYE hY hE
  obtain ⟨a, b, s, u, ha, hb, hs, _, hu, _⟩ := log_quo (y := Y) g1
  have a1 := fres_one ha
  have a2 := fdr_one ha
  have b1 := fres_one hb
  have b2 := fdr_one hb
  have s1 := fres_one hs
  have s2 := fdr_one hs
  have u1 := fres_one hu
  have u2 := fdr_one hu
  have hsn : fl .f64 s = some s := fl_nn (floatBits_nn hs)
  have hun : fl .f64 u = some u := fl_nn (floatBits_nn hu)
  have htail : logTailO Y E = fop .add .f64 (fop .mul .f64 (some 4611686018427387904) (fop .mul .f64 (some s) (logRowO (some u) 13))) (fop .mul .f64 (some E) (some 4604418534313441775)) := by
    unfold logTailO
    rw [fop_some, ha, fop_some, hb, fop_some, hs, fop_some, hu]
  have HTL := Lib.hid htail
  have HSN := Lib.hid hsn
  have HUN := Lib.hid hun
  clear ha hb hs hu htail hsn hun
  have HLT := Lib.hid hlty
  clear hlty
  have hEn : fl .f64 E = some E := pos_nn (by omega)
  have hYn : fl .f64 Y = some Y := pos_nn (by omega)
  have HEN := Lib.hid hEn
  have HYN := Lib.hid hYn
  have HST := Lib.hid hst1
  have HJE := Lib.hid hJE
  have htY := half_testF (y := Y) (by omega)
  rw [decide_eq_false (by omega)] at htY
  have hlY := low_testF g3 (by omega)
  clear hEn hYn hst1 hJE g1 g2 g3 g4 h1 h2
  go_enter Try.func87, Try.ntmps87
  go_wp2_with (go_at_call 96; refine (HI.out _).mono ?_; rintro e w' ⟨rfl, rfl⟩)
  go_loopw [0, 3] (fun x e wr => ((x = .float .f64 Y ∧ e = .int .i64 (J : Int)) ∨ (x = .float .f64 y ∧ e = .int .i64 0 ∧ 4609434218613702656 ≤ y ∧ floatBits .quo .f64 y 4611686018427387904 = some Y ∧ J = 1)) ∧ ∃ q, wr = w.drewN q) (fun x _ _ => floOf x)
  case atStart =>
    refine ⟨?_, 0, rfl⟩
    rcases HST.out with ⟨e1, e2⟩ | ⟨e0, e1, e2⟩
    · rw [e1, e2]; exact .inl ⟨rfl, rfl⟩
    · exact .inr ⟨rfl, rfl, e0, e1, e2⟩
  case round =>
    obtain ⟨hr, q0, rfl⟩ := hrel
    rcases hr with ⟨rfl, rfl⟩ | ⟨rfl, rfl, e0, e1, e2⟩
    · clear HST hyf HLT
      go_wp2
      go_loopw [0, 3] (fun x e wr => x = .float .f64 Y ∧ e = .int .i64 (J : Int) ∧ ∃ q, wr = w.drewN q) (fun x _ _ => 0)
      case atStart => exact ⟨rfl, rfl, q0, rfl⟩
      case round =>
        clear q0
        obtain ⟨rfl, rfl, q0, rfl⟩ := hrel
        go_wp2
        go_loopw [6, 7] (fun p k wr => ∃ (n q b : Nat) (m : Int), n ≤ 13 ∧ m = 2 * (n : Int) - 1 ∧ k = .int .i64 m ∧ p = .float .f64 b ∧ fl .f64 b = logRowO (some u) (13 - n) ∧ wr = w.drewN q) (fun _ k _ => (intOf k + 1).toNat)
        case atStart => exact ⟨13, _, 0, 25, Nat.le_refl _, by decide, rfl, rfl, by rw [fl0d]; exact (logRowO_zero _).symm, rfl⟩
        case round =>
          clear q0 htY hlY
          obtain ⟨n, q, b, m, hn, hm, rfl, rfl, hb, rfl⟩ := hrel
          have HB := Lib.hid hb
          clear hb
          by_cases h1 : 1 ≤ m
          · have hn0 : 1 ≤ n := by omega
            have hk := kL_eq hm
            have HK := Lib.hid hk
            clear hk
            go_wp2_with (rw [HK.out])
            go_roundw
            case rel =>
              refine ⟨n - 1, _, _, m - 2, by omega, by omega, by go_num, rfl, ?_, rfl⟩
              obtain ⟨i, rfl⟩ : ∃ i, n = i + 1 := ⟨n - 1, by omega⟩
              rw [Nat.add_sub_cancel, fl_fres, fl_fres, fl_fres, HB.out, HUN.out, fl_one, show floatOfInt .f64 (2 * ((i + 1 : Nat) : Int) - 1) = kL (i + 1) from rfl, kL_nn hn]
              exact (logRowO_succ _ (show i < 13 by omega)).symm
            case measure => simp [intOf]; omega
          · obtain rfl : n = 0 := by omega
            go_wp2_with (rw [HJE.out])
            go_ret
            refine ⟨_, rfl, ?_, _, rfl⟩
            rw [HTL.out, fl_fres, fl_fres, fl_fres, fl_fres, HB.out, HSN.out, HEN.out, fl_two, fl_ln2]
    · have ht := half_testF hyf
      rw [decide_eq_true e0] at ht
      have hd1 := fres_one e1
      have hd2 := fdr_one e1
      have HE0 := Lib.hid e0
      subst e2
      clear e1 e0 HST hyf htY hlY o1 o2
      go_wp2
      go_roundw
      case rel => exact ⟨.inl ⟨rfl, rfl⟩, _, rfl⟩
      case measure => rw [floOf_float, floOf_float]; exact HLT.out _ HE0.out rfl


set_option maxRecDepth 100000 in
theorem spec_l01Log_c (w : World) (z : Nat) (hz : Sum12 z) : Calls Try.prog 73 #[.float .f32 z] w fun e w' => ∃ v, e = .returned (.float .f32 v) ∧ fl .f32 v = logO (fl .f32 z) ∧ ∃ q, w' = w.drewN q := by
  rcases hz with hn | ⟨h1, h2⟩
  · obtain ⟨y, hy⟩ : ∃ y, fcv .f32 z .f64 w.tape w.drawn = y := ⟨_, rfl⟩
    have hyn : nanB .f64 y = true := by
      have h := fl_widen z w.tape w.drawn
      rw [hy, fl_nan hn] at h
      cases hh : nanB .f64 y with
      | true => rfl
      | false => rw [fl_nn hh] at h; cases h
    rw [fl_nan hn]
    have HC := Lib.hid fun W => spec_l01LogWide_nan_c W y hyn
    clear hyn
    go_enter Try.func73, Try.ntmps73
    go_wp2_with (first
      | rw [hy]
      | (go_at_call 87; refine (HC.out _).mono ?_; rintro e w' ⟨b, rfl, hb, rfl⟩; have HB := Lib.hid hb; clear hb)
      | (go_at_call 86; refine (spec_l01NarrowO_c _ _ (fun u hu => by rw [HB.out] at hu; cases hu)).mono ?_; rintro e w' ⟨v, rfl, hv, q2, rfl⟩))
    go_ret
    exact ⟨_, rfl, by rw [hv, HB.out]; rfl, _, rfl⟩
  · have hfl : fl .f32 z = some z := fl_nn (fin_nn (by rw [(sum12_abs h1 h2).1]; omega))
    obtain ⟨y, d, r, hy, y1, y2, hd, hr, hl⟩ := log_parts h1 h2
    have e1 := fcv_val hy
    have e2 := fcvd_val hy
    have HC := Lib.hid fun W => spec_l01LogWide_c W y y1 y2
    have hval : ∀ b, fl .f64 b = logTailO (halved y).1 (halved y).2 → (∀ u, fl .f64 b = some u → ∃ r, floatToFloatBits .f64 u .f32 = some r) ∧ ((fl .f64 b).bind fun y => floatToFloatBits .f64 y .f32) = logO (fl .f32 z) := fun b hb => by
      rw [hd] at hb
      rw [hb, hfl]
      exact ⟨fun u hu => by cases hu; exact ⟨r, hr⟩, hr.trans hl.symm⟩
    have HV := Lib.hid hval
    clear hval hy hd hr hl hfl
    go_enter Try.func73, Try.ntmps73
    go_wp2_with (first
      | (go_at_call 87; refine (HC.out _).mono ?_; rintro e w' ⟨b, rfl, hb, q, rfl⟩; have HB := Lib.hid hb; clear hb)
      | (go_at_call 86; refine (spec_l01NarrowO_c _ _ (HV.out _ HB.out).1).mono ?_; rintro e w' ⟨v, rfl, hv, q2, rfl⟩))
    go_ret
    exact ⟨_, rfl, hv.trans (HV.out _ HB.out).2, _, rfl⟩

end Go.Proofs.Ytopeidmafalklaa
