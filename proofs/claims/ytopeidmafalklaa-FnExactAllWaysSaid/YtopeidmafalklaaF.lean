/-
  Floats in the walk: what an operation on floats gives, up to the bits of a NaN, which the tape chooses.
  Conditions: none. 'fl' forgets the bits of a NaN; 'fop' is the operation on what is left.
-/
import Derived.Test.YtopeidmafalklaaRows
import Derived.WalkKit
import Derived.WalkSpells
import Derived.WalkLawsBesides
namespace Go.Proofs.Ytopeidmafalklaa
open Go.RowKit

/-- a word is a NaN -/
def nanB (k : FloatKind) (b : Nat) : Bool := (k.format.read b).isNaN

/-- a word, all NaNs being one -/
def fl (k : FloatKind) (b : Nat) : Option Nat := if nanB k b then none else some b

def fop (op : BinOp) (k : FloatKind) (x y : Option Nat) : Option Nat := x.bind fun a => y.bind fun b => floatBits op k a b

def ford (k : FloatKind) (x y : Option Nat) : Option Ordering := x.bind fun a => y.bind fun b => k.format.order a b

/-- the word that an operation gives in a world -/
def fres (op : BinOp) (k : FloatKind) (x y : Nat) (t : Tape) (d : Nat) : Nat :=
  match floatBits op k x y with
  | some r => r
  | none => (Question.nanBits k x y).cut (t d (.nanBits k x y))

/-- how often an operation asks the tape -/
def fdr (op : BinOp) (k : FloatKind) (x y : Nat) : Nat := match floatBits op k x y with | some _ => 0 | none => 1

section
variable {P : Program} (w : World)
theorem run_farith (op : BinOp) (hop : op = .add ∨ op = .sub ∨ op = .mul ∨ op = .quo) (t : TypeId) (k : FloatKind) (x y : Nat) :
    (binOp op t (.float k x) (.float k y)).run P w = .ok (.float k (fres op k x y w.tape w.drawn)) (w.drewN (fdr op k x y)) := by
  cases h : floatBits op k x y with
  | some r =>
    have e : fres op k x y w.tape w.drawn = r := by simp [fres, h]
    have e2 : w.drewN (fdr op k x y) = w := by simp [fdr, h, World.drewN]
    rw [e, e2]
    exact run_float_arith w op t k x y r h
  | none =>
    have e : fres op k x y w.tape w.drawn = (Question.nanBits k x y).cut (w.tape w.drawn (.nanBits k x y)) := by simp [fres, h]
    have e2 : w.drewN (fdr op k x y) = w.drew := by simp [fdr, h]; rfl
    rw [e, e2]
    have hf : (Question.nanBits k x y).forced = false := rfl
    unfold floatBits at h
    rcases hop with rfl | rfl | rfl | rfl <;> simp only at h <;> simp [binOp, Op.floatArith, h, choose, Sem.run, hf] <;> rfl

theorem run_fadd (t : TypeId) (k : FloatKind) (x y : Nat) : (binOp .add t (.float k x) (.float k y)).run P w = .ok (.float k (fres .add k x y w.tape w.drawn)) (w.drewN (fdr .add k x y)) := run_farith w .add (by simp) t k x y
theorem run_fsub (t : TypeId) (k : FloatKind) (x y : Nat) : (binOp .sub t (.float k x) (.float k y)).run P w = .ok (.float k (fres .sub k x y w.tape w.drawn)) (w.drewN (fdr .sub k x y)) := run_farith w .sub (by simp) t k x y
theorem run_fmul (t : TypeId) (k : FloatKind) (x y : Nat) : (binOp .mul t (.float k x) (.float k y)).run P w = .ok (.float k (fres .mul k x y w.tape w.drawn)) (w.drewN (fdr .mul k x y)) := run_farith w .mul (by simp) t k x y
theorem run_fquo (t : TypeId) (k : FloatKind) (x y : Nat) : (binOp .quo t (.float k x) (.float k y)).run P w = .ok (.float k (fres .quo k x y w.tape w.drawn)) (w.drewN (fdr .quo k x y)) := run_farith w .quo (by simp) t k x y
end

/-! ### What a word stands for -/

theorem sw32 : Ieee.single.signWeight = 2147483648 := by decide
theorem sw64 : Ieee.double.signWeight = 9223372036854775808 := by decide
theorem bi32 : Ieee.single.binade = 8388608 := by decide
theorem bi64 : Ieee.double.binade = 4503599627370496 := by decide
theorem ir32 : Ieee.single.infRung = 2139095040 := by decide
theorem ir64 : Ieee.double.infRung = 9218868437227405312 := by decide

theorem isNaN_iff (f : Ieee.Format) (hf : f.binade ≤ f.infRung) (b : Nat) : (f.read b).isNaN = decide (f.infRung < b % f.signWeight) := by
  by_cases hc : f.infRung < b % f.signWeight
  · have n0 : ¬ b % f.signWeight < f.binade := by omega
    have n1 : ¬ b % f.signWeight < f.infRung := by omega
    have n2 : ¬ b % f.signWeight = f.infRung := by omega
    simp [Ieee.Format.read, n0, n1, n2, Ieee.Datum.isNaN, hc]
  · have e1 : decide (f.infRung < b % f.signWeight) = false := by simpa using hc
    rw [e1]
    unfold Ieee.Format.read
    dsimp only
    split
    · rfl
    split
    · rfl
    split
    · rfl
    · exfalso; omega

theorem bi_le (k : FloatKind) : k.format.binade ≤ k.format.infRung := by cases k <;> decide

theorem nanB_eq (k : FloatKind) (b : Nat) : nanB k b = decide (k.format.infRung < b % k.format.signWeight) := isNaN_iff _ (bi_le k) b

theorem word_mod (f : Ieee.Format) (neg : Bool) (r : Nat) (h : r < f.signWeight) : f.word neg r % f.signWeight = r := by
  unfold Ieee.Format.word
  split
  · rw [Nat.add_mod_left]; exact Nat.mod_eq_of_lt h
  · exact Nat.mod_eq_of_lt h

/-- what is written of a number or an infinity is no NaN -/
theorem nanB_write (k : FloatKind) (d : Ieee.Datum) (h : d.isNaN = false) : nanB k (k.format.write d) = false := by
  rw [nanB_eq, decide_eq_false_iff_not, Nat.not_lt]
  have hi := k.format.infRung_lt
  cases d with
  | number neg mag place =>
    unfold Ieee.Format.write Ieee.Format.nearest
    dsimp only
    split
    · rw [word_mod _ _ _ (Nat.two_pow_pos _)]; exact Nat.zero_le _
    · rw [word_mod _ _ _ (Nat.lt_of_le_of_lt (Nat.min_le_right ..) hi)]; exact Nat.min_le_right ..
  | infinity neg => unfold Ieee.Format.write; dsimp only; rw [word_mod _ _ _ hi]; exact Nat.le_refl _
  | nan neg fraction => simp [Ieee.Datum.isNaN] at h

theorem sum_nn {d e r : Ieee.Datum} (h : d.sum e = some r) : r.isNaN = false := by
  cases d <;> cases e <;> simp only [Ieee.Datum.sum, reduceCtorEq] at h <;> first | (cases h; rfl) | skip
  split at h
  · cases h; rfl
  · cases h
theorem product_nn {d e r : Ieee.Datum} (h : d.product e = some r) : r.isNaN = false := by
  cases d <;> cases e <;> simp only [Ieee.Datum.product, reduceCtorEq] at h <;> first | (cases h; rfl) | skip
  all_goals (split at h <;> first | (cases h; rfl) | cases h)
theorem quotient_nn {n : Nat} {d e r : Ieee.Datum} (h : d.quotient n e = some r) : r.isNaN = false := by
  cases d <;> cases e <;> simp only [Ieee.Datum.quotient, reduceCtorEq] at h <;> first | (cases h; rfl) | skip
  split at h
  · split at h
    · cases h
    · cases h; rfl
  · cases h; rfl

theorem isNaN_cases {d : Ieee.Datum} (h : d.isNaN = true) : ∃ s t, d = .nan s t := by
  cases d <;> simp [Ieee.Datum.isNaN] at h ⊢

theorem floatBits_nan {op : BinOp} {k : FloatKind} {x y : Nat} (h : nanB k x = true ∨ nanB k y = true) : floatBits op k x y = none := by
  unfold nanB at h
  have key : ∀ d e : Ieee.Datum, (d.isNaN = true ∨ e.isNaN = true) → d.sum e = none ∧ d.sum e.opposite = none ∧ d.product e = none ∧ ∀ n, d.quotient n e = none := by
    intro d e h
    rcases h with h | h <;> obtain ⟨s, t, rfl⟩ := isNaN_cases h
    · simp [Ieee.Datum.sum, Ieee.Datum.product, Ieee.Datum.quotient]
    · cases d <;> simp [Ieee.Datum.sum, Ieee.Datum.product, Ieee.Datum.quotient, Ieee.Datum.opposite]
  obtain ⟨h1, h2, h3, h4⟩ := key _ _ h
  unfold floatBits
  cases op <;> simp [Ieee.Format.add, Ieee.Format.sub, Ieee.Format.mul, Ieee.Format.div, h1, h2, h3, h4]

theorem opposite_nn {d : Ieee.Datum} (h : d.isNaN = false) : d.opposite.isNaN = false := by cases d <;> simp_all [Ieee.Datum.isNaN, Ieee.Datum.opposite]

theorem floatBits_nn {op : BinOp} {k : FloatKind} {x y r : Nat} (h : floatBits op k x y = some r) : nanB k r = false := by
  unfold floatBits at h
  have key : ∀ o : Option Ieee.Datum, (∀ d, o = some d → d.isNaN = false) → o.map k.format.write = some r → nanB k r = false := by
    intro o ho hm
    cases o with
    | none => cases hm
    | some d => cases hm; exact nanB_write k d (ho d rfl)
  split at h
  · exact key _ (fun d hd => sum_nn hd) h
  · exact key _ (fun d hd => sum_nn hd) h
  · exact key _ (fun d hd => product_nn hd) h
  · exact key _ (fun d hd => quotient_nn hd) h
  · cases h

theorem nanBits_nan (k : FloatKind) (x y t : Nat) : nanB k ((Question.nanBits k x y).cut t) = true := by
  rw [nanB_eq, decide_eq_true_eq]
  cases k
  · show Ieee.single.infRung < _ % Ieee.single.signWeight
    rw [ir32, sw32]
    have e : (Question.nanBits .f32 x y).cut t = (t % 2) * 2147483648 + 2139095040 + 1 + (t / 2) % 8388607 := rfl
    rw [e]
    have hm := Nat.mod_lt (t / 2) (show 0 < 8388607 by decide)
    rcases Nat.mod_two_eq_zero_or_one t with h | h <;> rw [h] <;> omega
  · show Ieee.double.infRung < _ % Ieee.double.signWeight
    rw [ir64, sw64]
    have e : (Question.nanBits .f64 x y).cut t = (t % 2) * 9223372036854775808 + 9218868437227405312 + 1 + (t / 2) % 4503599627370495 := rfl
    rw [e]
    have hm := Nat.mod_lt (t / 2) (show 0 < 4503599627370495 by decide)
    rcases Nat.mod_two_eq_zero_or_one t with h | h <;> rw [h] <;> omega

theorem fl_nan {k : FloatKind} {b : Nat} (h : nanB k b = true) : fl k b = none := by simp [fl, h]
theorem fl_nn {k : FloatKind} {b : Nat} (h : nanB k b = false) : fl k b = some b := by simp [fl, h]

/-- THE LAW OF AN OPERATION, up to the bits of a NaN -/
theorem fl_fres (op : BinOp) (k : FloatKind) (x y : Nat) (t : Tape) (d : Nat) : fl k (fres op k x y t d) = fop op k (fl k x) (fl k y) := by
  by_cases hx : nanB k x = true
  · rw [fl_nan hx]
    have h0 := floatBits_nan (op := op) (k := k) (x := x) (y := y) (.inl hx)
    have e : fres op k x y t d = (Question.nanBits k x y).cut (t d (.nanBits k x y)) := by simp [fres, h0]
    rw [e, fl_nan (nanBits_nan ..)]
    rfl
  by_cases hy : nanB k y = true
  · rw [fl_nan hy]
    have h0 := floatBits_nan (op := op) (k := k) (x := x) (y := y) (.inr hy)
    have e : fres op k x y t d = (Question.nanBits k x y).cut (t d (.nanBits k x y)) := by simp [fres, h0]
    rw [e, fl_nan (nanBits_nan ..)]
    unfold fop
    cases fl k x <;> rfl
  have hx' : nanB k x = false := by simpa using hx
  have hy' : nanB k y = false := by simpa using hy
  rw [fl_nn hx', fl_nn hy']
  show _ = floatBits op k x y
  cases h : floatBits op k x y with
  | some r =>
    have e : fres op k x y t d = r := by simp [fres, h]
    rw [e, fl_nn (floatBits_nn h)]
  | none =>
    have e : fres op k x y t d = (Question.nanBits k x y).cut (t d (.nanBits k x y)) := by simp [fres, h]
    rw [e, fl_nan (nanBits_nan ..)]

theorem order_fl (k : FloatKind) (x y : Nat) : k.format.order x y = ford k (fl k x) (fl k y) := by
  unfold ford Ieee.Format.order
  by_cases hx : nanB k x = true
  · rw [fl_nan hx]
    obtain ⟨s, u, e⟩ := isNaN_cases hx
    rw [e]
    rfl
  by_cases hy : nanB k y = true
  · rw [fl_nan hy]
    obtain ⟨s, u, e⟩ := isNaN_cases hy
    rw [e]
    cases k.format.read x <;> cases fl k x <;> rfl
  rw [fl_nn (by simpa using hx), fl_nn (by simpa using hy)]
  rfl

theorem wf32 {b : Nat} : (Lit.float .f32 b).wf = true ↔ b < 4294967296 := by simp [Lit.wf]
theorem wf64 {b : Nat} : (Lit.float .f64 b).wf = true ↔ b < 18446744073709551616 := by simp [Lit.wf]

theorem cmp_self (n : Int) : compare n n = Ordering.eq := by simp

theorem order_self (k : FloatKind) (x : Nat) (h : nanB k x = false) : k.format.order x x = some .eq := by
  unfold nanB at h
  unfold Ieee.Format.order
  cases hd : k.format.read x with
  | number s m i => simp [Ieee.Datum.order]
  | infinity s => simp [Ieee.Datum.order]
  | nan s t => rw [hd] at h; simp [Ieee.Datum.isNaN] at h

theorem order_nan (k : FloatKind) (x y : Nat) (h : nanB k x = true) : k.format.order x y = none := by rw [order_fl, fl_nan h]; rfl

theorem nanBits_wf (k : FloatKind) (x y t : Nat) : (Lit.float k ((Question.nanBits k x y).cut t)).wf = true := by
  cases k
  · have e : (Question.nanBits .f32 x y).cut t = (t % 2) * 2147483648 + 2139095040 + 1 + (t / 2) % 8388607 := rfl
    rw [e, wf32]
    have hm := Nat.mod_lt (t / 2) (show 0 < 8388607 by decide)
    rcases Nat.mod_two_eq_zero_or_one t with h | h <;> rw [h] <;> omega
  · have e : (Question.nanBits .f64 x y).cut t = (t % 2) * 9223372036854775808 + 9218868437227405312 + 1 + (t / 2) % 4503599627370495 := rfl
    rw [e, wf64]
    have hm := Nat.mod_lt (t / 2) (show 0 < 4503599627370495 by decide)
    rcases Nat.mod_two_eq_zero_or_one t with h | h <;> rw [h] <;> omega

theorem fres_wf (op : BinOp) (k : FloatKind) (x y : Nat) (t : Tape) (d : Nat) : (Lit.float k (fres op k x y t d)).wf = true := by
  unfold fres
  cases h : floatBits op k x y with
  | some r => exact floatBits_wf h
  | none => exact nanBits_wf ..

/-! ### float32 to float64 -/

/-- the word that a conversion gives in a world -/
def fcv (s : FloatKind) (b : Nat) (k : FloatKind) (t : Tape) (d : Nat) : Nat :=
  match floatToFloatBits s b k with
  | some r => r
  | none => if nanB s b then (Question.nanConv k b).cut (t d (.nanConv k b)) else (Question.floatToFloat b).cut (t d (.floatToFloat b))

def fcvd (s : FloatKind) (b : Nat) (k : FloatKind) : Nat := match floatToFloatBits s b k with | some _ => 0 | none => 1

section
variable {P : Program} (w : World)
theorem run_fcv (src dst : TypeId) (s k : FloatKind) (b : Nat) (hs : (P.underlying src).isSome = true) (hd : P.underlying dst = some (.float k)) :
    (convert src dst (.float s b)).run P w = .ok (.float k (fcv s b k w.tape w.drawn)) (w.drewN (fcvd s b k)) := by
  cases h : floatToFloatBits s b k with
  | some r =>
    have e : fcv s b k w.tape w.drawn = r := by simp [fcv, h]
    have e2 : w.drewN (fcvd s b k) = w := by simp [fcvd, h, World.drewN]
    rw [e, e2]
    exact run_convert_float_float w src dst s k b r hs hd h
  | none =>
    have e2 : w.drewN (fcvd s b k) = w.drew := by simp [fcvd, h]; rfl
    rw [e2]
    obtain ⟨u, hs'⟩ := Option.isSome_iff_exists.1 hs
    unfold floatToFloatBits at h
    split at h
    · cases h
    · rename_i ne
      have hq1 : (Question.nanConv k b).forced = false := rfl
      have hq2 : (Question.floatToFloat b).forced = false := rfl
      split at h
      · rename_i sg fr he
        have hn : nanB s b = true := by unfold nanB; unfold FloatKind.decode at he; rw [he]; rfl
        have e : fcv s b k w.tape w.drawn = (Question.nanConv k b).cut (w.tape w.drawn (.nanConv k b)) := by
          unfold fcv floatToFloatBits
          simp [ne, he, hn]
        rw [e]
        cases u <;> simp [convert, run_underlying hs', run_underlying hd, Conv.floatToFloat, ne, he, choose, Sem.run, hq1] <;> rfl
      · cases h
      · rename_i sg m e he
        split at h
        · rename_i ho
          have hn : nanB s b = false := by unfold nanB; unfold FloatKind.decode at he; rw [he]; rfl
          have e : fcv s b k w.tape w.drawn = (Question.floatToFloat b).cut (w.tape w.drawn (.floatToFloat b)) := by
            unfold fcv floatToFloatBits
            simp [ne, he, hn, ho]
          rw [e]
          cases u <;> simp [convert, run_underlying hs', run_underlying hd, Conv.floatToFloat, ne, he, ho, choose, Sem.run, hq2] <;> rfl
        · cases h
end

theorem read_rung (f : Ieee.Format) (neg : Bool) (r : Nat) (h : r < f.infRung) : (f.read (f.word neg r)).isInfinity = false := by
  have hi := f.infRung_lt
  unfold Ieee.Format.read
  dsimp only
  rw [word_mod _ _ _ (by omega)]
  split
  · rfl
  · rfl

theorem cut_le (neg : Bool) (n d : Nat) : Ieee.Toward.even.cut neg n d ≤ n + 1 := by
  unfold Ieee.Toward.cut
  dsimp only
  have h1 : n / (1 <<< min d (n.log2 + 2)) ≤ n := Nat.div_le_self ..
  have h2 := Bool.toNat_le (decide (1 <<< min d (n.log2 + 2) < 2 * (n % 1 <<< min d (n.log2 + 2))) || 1 <<< min d (n.log2 + 2) == 2 * (n % 1 <<< min d (n.log2 + 2)) && n / 1 <<< min d (n.log2 + 2) % 2 == 1)
  omega

/-- a number of at most 24 binary digits, its last place at most 104, is no infinity as a float64 -/
theorem wide_finite (neg : Bool) (m : Nat) (e : Int) (hm : m < 16777216) (he : e ≤ 104) : (Ieee.double.read (Ieee.double.nearest neg m e)).isInfinity = false := by
  unfold Ieee.Format.nearest
  split
  · refine read_rung _ _ _ ?_
    rw [ir64]; omega
  · rename_i h0
    refine read_rung _ _ _ ?_
    have hl : Ieee.double.leastPlace = -1074 := by decide
    have hf : (Ieee.double.fractionBits : Int) = 52 := by decide
    rw [hl, hf, bi64, ir64]
    have hlog : m.log2 < 24 := (Nat.log2_lt h0).2 hm
    refine Nat.lt_of_le_of_lt (Nat.min_le_left _ _) ?_
    have hL : max (e + (m.log2 : Int) - 52) (-1074) ≤ 76 := by omega
    have hL2 : e + (m.log2 : Int) - 52 ≤ max (e + (m.log2 : Int) - 52) (-1074) := by omega
    generalize max (e + (m.log2 : Int) - 52) (-1074) = L at *
    have hs : (e - L).toNat ≤ 52 - m.log2 := by omega
    have hk := cut_le neg (m <<< (e - L).toNat) (L - e).toNat
    have hshift : m <<< (e - L).toNat < 2 ^ 53 := by
      rw [Nat.shiftLeft_eq]
      have h1 : m < 2 ^ (m.log2 + 1) := Nat.lt_log2_self
      have h2 : 2 ^ (e - L).toNat ≤ 2 ^ (52 - m.log2) := Nat.pow_le_pow_right (by decide) hs
      have h3 : 2 ^ (m.log2 + 1) * 2 ^ (52 - m.log2) = 2 ^ 53 := by rw [← Nat.pow_add]; congr 1; omega
      have h4 : 0 < 2 ^ (52 - m.log2) := Nat.two_pow_pos _
      calc m * 2 ^ (e - L).toNat ≤ m * 2 ^ (52 - m.log2) := Nat.mul_le_mul_left _ h2
        _ < 2 ^ (m.log2 + 1) * 2 ^ (52 - m.log2) := Nat.mul_lt_mul_of_pos_right h1 h4
        _ = 2 ^ 53 := h3
    have hL3 : (L - (-1074)).toNat ≤ 1150 := by omega
    have h5 : (L - (-1074)).toNat * 4503599627370496 ≤ 1150 * 4503599627370496 := Nat.mul_le_mul_right _ hL3
    omega

theorem read_small (b : Nat) : ∀ s m e, Ieee.single.read b = .number s m e → m < 16777216 ∧ e ≤ 104 := by
  intro s m e h
  unfold Ieee.Format.read at h
  have hl : Ieee.single.leastPlace = -149 := by decide
  rw [bi32, ir32, sw32, hl] at h
  dsimp only at h
  split at h
  · cases h; omega
  · split at h
    · rename_i h1 h2
      simp only [Ieee.Datum.number.injEq] at h
      obtain ⟨_, rfl, rfl⟩ := h
      omega
    · split at h <;> cases h

/-- a float32 that is no NaN has a float64 -/
theorem widen_some (b : Nat) (h : nanB .f32 b = false) : ∃ r, floatToFloatBits .f32 b .f64 = some r ∧ nanB .f64 r = false := by
  unfold floatToFloatBits
  rw [if_neg (by decide)]
  unfold nanB at h
  have hd : FloatKind.f32.decode b = Ieee.single.read b := rfl
  rw [hd]
  have h' : (Ieee.single.read b).isNaN = false := h
  cases hr : Ieee.single.read b with
  | number s m e =>
    obtain ⟨h1, h2⟩ := read_small b s m e hr
    have h3 := wide_finite s m e h1 h2
    have h4 : (FloatKind.f64.decode (FloatKind.f64.encode (.number s m e))).isInfinity = false := h3
    simp only [h4]
    exact ⟨_, rfl, nanB_write .f64 _ rfl⟩
  | infinity s => exact ⟨_, rfl, nanB_write .f64 _ rfl⟩
  | nan s t => rw [hr] at h'; simp [Ieee.Datum.isNaN] at h'

/-- float64 of a float32, all NaNs being one -/
def widen (x : Option Nat) : Option Nat := x.bind fun b => floatToFloatBits .f32 b .f64

theorem nanConv_nan (b t : Nat) : nanB .f64 ((Question.nanConv .f64 b).cut t) = true := nanBits_nan .f64 0 0 t

theorem fl_widen (b : Nat) (t : Tape) (d : Nat) : fl .f64 (fcv .f32 b .f64 t d) = widen (fl .f32 b) := by
  by_cases hn : nanB .f32 b = true
  · have h0 : floatToFloatBits .f32 b .f64 = none := by
      unfold floatToFloatBits
      rw [if_neg (by decide)]
      obtain ⟨s, u, e⟩ := isNaN_cases hn
      have e' : FloatKind.f32.decode b = .nan s u := e
      rw [e']
    have e : fcv .f32 b .f64 t d = (Question.nanConv .f64 b).cut (t d (.nanConv .f64 b)) := by simp [fcv, h0, hn]
    rw [e, fl_nan (nanConv_nan ..), fl_nan hn]
    rfl
  · have hn' : nanB .f32 b = false := by simpa using hn
    obtain ⟨r, h1, h2⟩ := widen_some b hn'
    have e : fcv .f32 b .f64 t d = r := by simp [fcv, h1]
    rw [e, fl_nn h2, fl_nn hn']
    exact h1.symm

theorem run_fneg {P : Program} (k : FloatKind) (b : Nat) (w : World) : (Op.unary .neg (.float k b)).run P w = .ok (.float k (Op.negFloat k b)) w := rfl
attribute [go_sem] run_fneg
attribute [go_sem] run_fadd run_fsub run_fmul run_fquo run_fcv

end Go.Proofs.Ytopeidmafalklaa
