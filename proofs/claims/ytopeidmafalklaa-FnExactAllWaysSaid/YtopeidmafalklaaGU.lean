/-
  Contracts: the exponential function of both programs, up to the bits of a NaN.
  Conditions: the number is a NaN, minus infinity, or finite and not above nought.
-/
import Derived.Test.YtopeidmafalklaaGT
import Derived.Test.YtopeidmafalklaaCA
import Derived.Lib.Hide
namespace Go.Proofs.Ytopeidmafalklaa
open Ieee Go.RowKit

theorem fl_inv {k : FloatKind} {x y : Nat} (h : fl k x = some y) : x = y ∧ nanB k x = false := by
  unfold fl at h
  split at h
  · cases h
  · rename_i hn
    cases h
    exact ⟨rfl, by simpa using hn⟩
theorem f2f_nn {s k : FloatKind} {b r : Nat} (hne : s ≠ k) (h : floatToFloatBits s b k = some r) : nanB k r = false := by
  unfold floatToFloatBits at h
  rw [if_neg hne] at h
  split at h
  · cases h
  · cases h; exact nanB_write k _ rfl
  · split at h
    · cases h
    · cases h; exact nanB_write k _ rfl
theorem nanConv_nan32 (b t : Nat) : nanB .f32 ((Question.nanConv .f32 b).cut t) = true := nanBits_nan .f32 0 0 t
theorem f2f_nan {s k : FloatKind} {b : Nat} (hne : s ≠ k) (hn : nanB s b = true) : floatToFloatBits s b k = none := by
  unfold floatToFloatBits
  rw [if_neg hne]
  obtain ⟨g, u, e⟩ := isNaN_cases hn
  have e' : s.decode b = .nan g u := e
  rw [e']
/-- narrowing where the number has a value -/
theorem fl_narrow {x : Nat} (h : ∀ y, fl .f64 x = some y → ∃ r, floatToFloatBits .f64 y .f32 = some r) (t : Tape) (d : Nat) : fl .f32 (fcv .f64 x .f32 t d) = (fl .f64 x).bind fun y => floatToFloatBits .f64 y .f32 := by
  by_cases hn : nanB .f64 x = true
  · have h0 := f2f_nan (s := .f64) (k := .f32) (by decide) hn
    have e : fcv .f64 x .f32 t d = (Question.nanConv .f32 x).cut (t d (.nanConv .f32 x)) := by simp [fcv, h0, hn]
    rw [e, fl_nan (nanConv_nan32 ..), fl_nan hn]
    rfl
  · have hn' : nanB .f64 x = false := by simpa using hn
    obtain ⟨r, hr⟩ := h x (fl_nn hn')
    have e : fcv .f64 x .f32 t d = r := by simp [fcv, hr]
    rw [e, fl_nn (f2f_nn (by decide) hr), fl_nn hn']
    exact hr.symm
theorem fop_some {op : BinOp} {k : FloatKind} (a b : Nat) : fop op k (some a) (some b) = floatBits op k a b := rfl
theorem fop_none {op : BinOp} {k : FloatKind} (x : Option Nat) : fop op k x none = none := by cases x <;> rfl
theorem none_fop {op : BinOp} {k : FloatKind} (x : Option Nat) : fop op k none x = none := rfl

theorem fres_one {op : BinOp} {k : FloatKind} {x y r : Nat} (h : floatBits op k x y = some r) : ∀ t d, fres op k x y t d = r := fun t d => by simp [fres, h]
theorem fdr_one {op : BinOp} {k : FloatKind} {x y r : Nat} (h : floatBits op k x y = some r) : fdr op k x y = 0 := by simp [fdr, h]
theorem fcv_val {s k : FloatKind} {b r : Nat} (h : floatToFloatBits s b k = some r) : ∀ t d, fcv s b k t d = r := fun t d => by simp [fcv, h]
theorem fcvd_val {s k : FloatKind} {b r : Nat} (h : floatToFloatBits s b k = some r) : fcvd s b k = 0 := by simp [fcvd, h]

/-- the gap of a join -/
def Gap (d : Nat) : Prop := nanB .f32 d = true ∨ (absF d < 2139095040 ∧ (d = 0 ∨ sgnF d = true)) ∨ d = 4286578688
def farB (d : Option Nat) : Bool := d.any fun d => decide (sgnF d = true ∧ 1128792064 < absF d)
def expO (d : Option Nat) : Option Nat := d.bind expNum
theorem fin_nn {d : Nat} (h : absF d < 2139095040) : nanB .f32 d = false := by
  rw [nanB_eq, decide_eq_false_iff_not]
  show ¬ Ieee.single.infRung < d % Ieee.single.signWeight
  rw [ir32, sw32]
  unfold absF at h
  omega
theorem Gap.high {d : Nat} (h : Gap d) : (FloatKind.f32.format.order d 1128792064 == some Ordering.gt) = false := by
  rcases h with h | ⟨h1, h2⟩ | rfl
  · rw [order_nan _ _ _ h]; rfl
  · exact gap_high h1 h2
  · decide
theorem Gap.low {d : Nat} (h : Gap d) : (FloatKind.f32.format.order d 3276275712 == some Ordering.lt) = farB (fl .f32 d) := by
  rcases h with h | ⟨h1, h2⟩ | rfl
  · rw [order_nan _ _ _ h, fl_nan h]; rfl
  · rw [fl_nn (fin_nn h1)]; exact gap_low h1 h2
  · decide
theorem expO_far {x : Option Nat} (h : farB x = true) : expO x = some 0 := by
  cases x with
  | none => cases h
  | some d =>
    have h2 : sgnF d = true ∧ 1128792064 < absF d := of_decide_eq_true h
    show expNum d = some 0
    unfold expNum
    rw [if_pos h2]
/-- a step of the row -/
def expStepO (t p : Option Nat) (k : Nat) : Option Nat := fop .add .f64 (some 4607182418800017408) (fop .quo .f64 (fop .mul .f64 t p) (some k))
def expRowO (t : Option Nat) (i : Nat) : Option Nat := (expKs.take i).foldl (expStepO t) (some 4607182418800017408)
def sqO (p : Option Nat) : Nat → Option Nat
  | 0 => p
  | n + 1 => fop .mul .f64 (sqO p n) (sqO p n)
def expWideO (y : Option Nat) : Option Nat := sqO (expRowO (fop .quo .f64 y (some 4643211215818981376)) 12) 8
theorem expFold_none (t : Option Nat) : ∀ ks : List Nat, ks.foldl (expStepO t) none = none
  | [] => rfl
  | k :: ks => by
    rw [List.foldl_cons]
    have : expStepO t none k = none := by unfold expStepO; rw [fop_none, none_fop, fop_none]
    rw [this]
    exact expFold_none t ks
theorem expFold (t : Nat) : ∀ (ks : List Nat) (p : Nat), ks.foldl (expStepO (some t)) (some p) = expRow t ks p
  | [], p => rfl
  | k :: ks, p => by
    rw [List.foldl_cons]
    unfold expRow expStepO
    rw [fop_some]
    cases h1 : floatBits .mul .f64 t p with
    | none => rw [none_fop, fop_none]; exact expFold_none _ ks
    | some a =>
      rw [fop_some]
      simp only [Option.bind_some]
      cases h2 : floatBits .quo .f64 a k with
      | none => rw [fop_none]; exact expFold_none _ ks
      | some b =>
        rw [fop_some]
        simp only [Option.bind_some]
        cases h3 : floatBits .add .f64 4607182418800017408 b with
        | none => exact expFold_none _ ks
        | some r => exact expFold t ks r
theorem expFold_nan : ∀ (ks : List Nat) (p : Option Nat), ks ≠ [] → ks.foldl (expStepO none) p = none
  | [], _, h => absurd rfl h
  | k :: ks, p, _ => by
    rw [List.foldl_cons]
    have : expStepO none p k = none := by unfold expStepO; rw [none_fop, none_fop, fop_none]
    rw [this]
    exact expFold_none none ks
theorem sqO_none : ∀ n, sqO none n = none
  | 0 => rfl
  | n + 1 => by unfold sqO; rw [sqO_none n]; rfl
theorem sqO_out (p : Option Nat) : ∀ n, sqO p (n + 1) = sqO (fop .mul .f64 p p) n
  | 0 => rfl
  | n + 1 => by
    show fop .mul .f64 (sqO p (n + 1)) (sqO p (n + 1)) = _
    rw [sqO_out p n]
    rfl
theorem sqO_some : ∀ (n p : Nat), sqO (some p) n = sqRow n p
  | 0, _ => rfl
  | n + 1, p => by
    rw [sqO_out, fop_some]
    unfold sqRow
    cases h : floatBits .mul .f64 p p with
    | none => exact sqO_none n
    | some r => exact sqO_some n r
theorem expKs12 : expKs.take 12 = expKs := by decide
theorem expWideO_some (y : Nat) : expWideO (some y) = expWide y := by
  unfold expWideO expWide expRowO
  rw [fop_some, expKs12]
  cases h : floatBits .quo .f64 y 4643211215818981376 with
  | none =>
    rw [expFold_nan _ _ (by decide), sqO_none]
    rfl
  | some t =>
    rw [expFold]
    simp only [Option.bind_some]
    cases h2 : expRow t expKs 4607182418800017408 with
    | none => exact sqO_none 8
    | some p => exact sqO_some 8 p
theorem expWideO_eq (y : Option Nat) : sqO (expRowO (fop .quo .f64 y (some 4643211215818981376)) 12) 8 = expWideO y := rfl
theorem expWideO_none : expWideO none = none := by
  unfold expWideO expRowO
  rw [none_fop, expKs12, expFold_nan _ _ (by decide), sqO_none]
/-- the whole numbers as doubles -/
def kF (n : Nat) : Nat := floatOfInt .f64 (n : Int)
theorem kF_ks : ∀ i : Fin 12, expKs[i.val]? = some (kF (12 - i.val)) := by decide +kernel
theorem expRowO_succ (t : Option Nat) {n : Nat} (h : n < 12) : expRowO t (12 - n) = expStepO t (expRowO t (12 - (n + 1))) (kF (n + 1)) := by
  have hk := kF_ks ⟨12 - (n + 1), by omega⟩
  unfold expRowO
  rw [show 12 - n = 12 - (n + 1) + 1 by omega, List.take_add_one, List.foldl_append, hk, show 12 - (12 - (n + 1)) = n + 1 by omega]
  rfl
theorem expRowO_zero (t : Option Nat) : expRowO t (12 - 12) = some 4607182418800017408 := by
  unfold expRowO
  rw [Nat.sub_self, List.take_zero, List.foldl_nil]
theorem kF_test {n : Nat} (h : n ≤ 12) : (FloatKind.f64.format.order (kF n) 4607182418800017408 == some Ordering.gt || FloatKind.f64.format.order (kF n) 4607182418800017408 == some Ordering.eq) = decide (1 ≤ n) := k_test1 ⟨n, by omega⟩
theorem kF_down {n : Nat} (h : n < 12) : floatBits .sub .f64 (kF (n + 1)) 4607182418800017408 = some (kF n) := k_down1 ⟨n, h⟩
theorem kF_lt : ∀ n : Fin 12, kF n.val < kF (n.val + 1) := by decide +kernel
theorem kF_12 : kF 12 = 4622945017495814144 := by decide +kernel
/-- a slot's word -/
def floOf : Value → Nat
  | .float _ b => b
  | _ => 0
theorem floOf_float (k : FloatKind) (b : Nat) : floOf (.float k b) = b := rfl
theorem floOf_lt {n : Nat} (h : n < 12) : floOf (.float .f64 (kF n)) < floOf (.float .f64 (kF (n + 1))) := by
  rw [floOf_float, floOf_float]
  have h2 := kF_lt ⟨n, h⟩
  simp only at h2
  exact h2
theorem sqO_succ (p : Option Nat) (n : Nat) : sqO p (n + 1) = fop .mul .f64 (sqO p n) (sqO p n) := rfl
theorem kF_nn {n : Nat} (h : n ≤ 12) : fl .f64 (kF n) = some (kF n) := by
  have : ∀ n : Fin 13, nanB .f64 (kF n.val) = false := by decide +kernel
  exact fl_nn (this ⟨n, by omega⟩)
theorem fl_one : fl .f64 4607182418800017408 = some 4607182418800017408 := by decide
theorem fl0d : fl .f64 0 = some 0 := by decide
theorem fl_256 : fl .f64 4643211215818981376 = some 4643211215818981376 := by decide
theorem exp_value {d b : Nat} (hg : Gap d) (hf : farB (fl .f32 d) = false) (hb : fl .f64 b = expWideO (widen (fl .f32 d))) (t : Tape) (k : Nat) : fl .f32 (fcv .f64 b .f32 t k) = expO (fl .f32 d) := by
  by_cases hn : nanB .f32 d = true
  · rw [fl_nan hn] at hb ⊢
    have : widen none = none := rfl
    rw [this, expWideO_none] at hb
    rw [fl_narrow (fun y hy => by rw [hb] at hy; cases hy), hb]
    rfl
  · have hfl : fl .f32 d = some d := fl_nn (by simpa using hn)
    rw [hfl] at hb hf ⊢
    have hgap : d = 0 ∨ sgnF d = true := by
      rcases hg with h | ⟨_, h⟩ | h
      · exact absurd h hn
      · exact h
      · subst h; exact .inr (by decide)
    obtain ⟨r, hr, _⟩ := expNum_some hgap
    have hr' := hr
    unfold expNum at hr'
    have hnf : ¬ (sgnF d = true ∧ 1128792064 < absF d) := of_decide_eq_false hf
    rw [if_neg hnf] at hr'
    cases hy : floatToFloatBits .f32 d .f64 with
    | none => rw [hy] at hr'; cases hr'
    | some y =>
      rw [hy] at hr'
      simp only [Option.bind_some] at hr'
      cases hp : expWide y with
      | none => rw [hp] at hr'; cases hr'
      | some p =>
        rw [hp] at hr'
        simp only [Option.bind_some] at hr'
        have hw : widen (some d) = some y := hy
        rw [hw, expWideO_some, hp] at hb
        rw [fl_narrow (fun z hz => by rw [hb] at hz; cases hz; exact ⟨r, hr'⟩), hb]
        show floatToFloatBits .f64 p .f32 = expNum d
        rw [hr, hr']


set_option maxRecDepth 100000 in
set_option maxHeartbeats 1000000 in
theorem impl_ExpNumber_c (w : World) (d : Nat) (hg : Gap d) : Calls Try.prog 79 #[.float .f32 d] w fun e w' => ∃ v, e = .returned (.float .f32 v) ∧ fl .f32 v = expO (fl .f32 d) ∧ ∃ q, w' = w.drewN q := by
  have h1 := hg.high
  have h2 := hg.low
  by_cases hf : farB (fl .f32 d) = true
  · rw [hf] at h2
    go_enter Try.func79, Try.ntmps79
    go_wp2
    go_ret
    exact ⟨0, rfl, by rw [fl0]; exact (expO_far hf).symm, 0, rfl⟩
  · have hf' : farB (fl .f32 d) = false := by simpa using hf
    rw [hf'] at h2
    go_enter Try.func79, Try.ntmps79
    go_wp2
    obtain ⟨t, ht⟩ : ∃ t : Nat, fres .quo .f64 (fcv .f32 d .f64 w.tape w.drawn) 4643211215818981376 w.tape (w.drewN (fcvd .f32 d .f64)).drawn = t := ⟨_, rfl⟩
    have hT : fl .f64 t = fop .quo .f64 (widen (fl .f32 d)) (some 4643211215818981376) := by rw [← ht, fl_fres, fl_widen, fl_256]
    rw [ht]
    obtain ⟨q0, hq0⟩ : ∃ q, fcvd .f32 d .f64 + fdr .quo .f64 (fcv .f32 d .f64 w.tape w.drawn) 4643211215818981376 = q := ⟨_, rfl⟩
    rw [hq0]
    have HT := Lib.hid hT
    clear hT ht hq0 h1 h2 hf
    go_loopw [4, 5] (fun p k wr => ∃ n q b : Nat, n ≤ 12 ∧ k = .float .f64 (kF n) ∧ p = .float .f64 b ∧ fl .f64 b = expRowO (fl .f64 t) (12 - n) ∧ wr = w.drewN q) (fun _ k _ => floOf k)
    case atStart => exact ⟨12, q0, 4607182418800017408, Nat.le_refl _, by rw [kF_12], rfl, by rw [fl_one]; exact (expRowO_zero _).symm, rfl⟩
    case round =>
      obtain ⟨n, q, b, hn, rfl, rfl, hb, rfl⟩ := hrel
      have HB := Lib.hid hb
      clear hb
      have htest := kF_test hn
      cases n with
      | zero =>
        rw [decide_eq_false (by omega)] at htest
        go_wp2
        go_loopw [4, 27] (fun p k wr => ∃ n q b : Nat, n ≤ 8 ∧ k = .int .i64 n ∧ p = .float .f64 b ∧ fl .f64 b = sqO (expRowO (fl .f64 t) 12) n ∧ wr = w.drewN q) (fun _ k _ => 8 - (intOf k).toNat)
        case atStart => exact ⟨0, q, b, by omega, rfl, rfl, HB.out, rfl⟩
        case round =>
          clear HB
          obtain ⟨n, q, b, hn, rfl, rfl, hb, rfl⟩ := hrel
          have HB := Lib.hid hb
          clear hb
          by_cases hlt : n < 8
          · go_wp2
            go_roundw
            case rel => exact ⟨n + 1, _, _, by omega, by go_num, rfl, by rw [fl_fres, HB.out, sqO_succ], rfl⟩
            case measure => simp [intOf]; omega
          · obtain rfl : n = 8 := by omega
            go_wp2
            go_ret
            refine ⟨_, rfl, exp_value hg hf' ?_ _ _, _, rfl⟩
            rw [HB.out, HT.out]
            exact expWideO_eq _
      | succ n =>
        rw [decide_eq_true (by omega)] at htest
        have hd := kF_down (n := n) (by omega)
        have hd1 : ∀ t d, fres .sub .f64 (kF (n + 1)) 4607182418800017408 t d = kF n := fres_one hd
        have hd2 : fdr .sub .f64 (kF (n + 1)) 4607182418800017408 = 0 := fdr_one hd
        clear hd
        go_wp2
        go_roundw
        case rel => exact ⟨n, _, _, by omega, rfl, rfl, by rw [fl_fres, fl_fres, fl_fres, HB.out, fl_one, kF_nn hn]; exact (expRowO_succ _ (show n < 12 by omega)).symm, rfl⟩
        case measure => exact floOf_lt (by omega)


set_option maxRecDepth 100000 in
set_option maxHeartbeats 1000000 in
theorem spec_l01ExpWide_c (w : World) (y : Nat) (far : Bool) (h1 : (FloatKind.f64.format.order y 4641240890982006784 == some Ordering.gt) = false) (h2 : (FloatKind.f64.format.order y 13864612927836782592 == some Ordering.lt) = far) :
    Calls Try.prog 88 #[.float .f64 y] w fun e w' => ∃ v, e = .returned (.float .f64 v) ∧ fl .f64 v = (if far then some 0 else expWideO (fl .f64 y)) ∧ ∃ q, w' = w.drewN q := by
  by_cases hn : nanB .f64 y = true
  · have h0 : FloatKind.f64.format.order y y = none := order_nan _ _ _ hn
    have hfar : far = false := by rw [← h2, order_nan _ _ _ hn]; rfl
    subst hfar
    go_enter Try.func88, Try.ntmps88
    go_wp2
    go_ret
    exact ⟨y, rfl, by rw [fl_nan hn, expWideO_none], 0, rfl⟩
  have h0 : FloatKind.f64.format.order y y = some .eq := order_self _ _ (by simpa using hn)
  cases far
  · go_enter Try.func88, Try.ntmps88
    go_wp2
    obtain ⟨t, ht⟩ : ∃ t : Nat, fres .quo .f64 y 4643211215818981376 w.tape w.drawn = t := ⟨_, rfl⟩
    have hT : fl .f64 t = fop .quo .f64 (fl .f64 y) (some 4643211215818981376) := by rw [← ht, fl_fres, fl_256]
    rw [ht]
    obtain ⟨q0, hq0⟩ : ∃ q, fdr .quo .f64 y 4643211215818981376 = q := ⟨_, rfl⟩
    rw [hq0]
    have HT := Lib.hid hT
    clear hT ht hq0 h0 h1 h2 hn
    go_loopw [4, 5] (fun p k wr => ∃ n q b : Nat, n ≤ 12 ∧ k = .int .i64 n ∧ p = .float .f64 b ∧ fl .f64 b = expRowO (fl .f64 t) (12 - n) ∧ wr = w.drewN q) (fun _ k _ => (intOf k).toNat)
    case atStart => exact ⟨12, q0, 4607182418800017408, Nat.le_refl _, rfl, rfl, by rw [fl_one]; exact (expRowO_zero _).symm, rfl⟩
    case round =>
      obtain ⟨n, q, b, hn, rfl, rfl, hb, rfl⟩ := hrel
      have HB := Lib.hid hb
      clear hb
      cases n with
      | zero =>
        go_wp2
        go_loopw [4, 6] (fun p k wr => ∃ n q b : Nat, n ≤ 8 ∧ k = .int .i64 n ∧ p = .float .f64 b ∧ fl .f64 b = sqO (expRowO (fl .f64 t) 12) n ∧ wr = w.drewN q) (fun _ k _ => 8 - (intOf k).toNat)
        case atStart => exact ⟨0, q, b, by omega, rfl, rfl, HB.out, rfl⟩
        case round =>
          clear HB
          obtain ⟨n, q, b, hn, rfl, rfl, hb, rfl⟩ := hrel
          have HB := Lib.hid hb
          clear hb
          by_cases hlt : n < 8
          · go_wp2
            go_roundw
            case rel => exact ⟨n + 1, _, _, by omega, by go_num, rfl, by rw [fl_fres, HB.out, sqO_succ], rfl⟩
            case measure => simp [intOf]; omega
          · obtain rfl : n = 8 := by omega
            go_wp2
            go_ret
            refine ⟨_, rfl, ?_, _, rfl⟩
            rw [HB.out, HT.out]
            exact expWideO_eq _
      | succ n =>
        go_wp2
        go_roundw
        case rel => exact ⟨n, _, _, by omega, by go_num, rfl, by rw [fl_fres, fl_fres, fl_fres, HB.out, fl_one, show floatOfInt .f64 ((n : Int) + 1) = kF (n + 1) from rfl, kF_nn hn]; exact (expRowO_succ _ (show n < 12 by omega)).symm, rfl⟩
        case measure => simp [intOf]
  · go_enter Try.func88, Try.ntmps88
    go_wp2
    go_ret
    exact ⟨0, rfl, fl0d, 0, rfl⟩

end Go.Proofs.Ytopeidmafalklaa
