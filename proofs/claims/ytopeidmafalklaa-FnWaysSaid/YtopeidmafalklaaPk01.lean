/-
  Floats in the walk: what an operation on floats gives, up to the bits of a NaN, which the tape chooses.
  Conditions: none. 'fl' forgets the bits of a NaN; 'fop' is the operation on what is left.
  Memory in the walk: what a slice holds, said of its cells; rows that a call owns; lists.
  Conditions: none.
  A region that draws its order, whose operations leave memory alone but may draw (a NaN's bits), and whose calls hand back a value of a set: one walk of the lexical order serves every order.
  Conditions: the operations only read; a call's set of values depends on its arguments alone.
  Contracts of the laws' helpers: copies, comparisons, marks.
  Conditions: lengths at most 1048576 where memory is made; marks are small numbers.
  From a law's walk to its row: arguments opened, the row shut.
  Conditions: the walk returns true and leaves all that was there as it was.
  Contracts of the law on drops: what it draws from bytes, and sameness of equal rows; rows that are apart.
  Conditions: as each theorem says.
  Plain: numbers of double precision, doubled and halved; how they stand to one another.
  Conditions: none.
  Contracts: finite numbers, and the library's searches.
  Conditions: slices are read in memory that is there.
  Bounds of single floats: sums and products of numbers that are not too great are numbers, and not much greater.
  Conditions: as each theorem states.
-/
import Derived.Test.YtopeidmafalklaaRows
import Derived.WalkKit
import Derived.WalkSpells
import Derived.WalkLawsBesides
import Derived.Deep.QuietTactic
import Derived.BigQuiet
import Derived.Lib.Hide
import Derived.Deep.AppendLies
import Derived.StillTail
import Derived.ProofKit
import Derived.OpenShut
import Derived.Deep.Slices
import Derived.Lib.SmallJoins
import Derived.Maps.AppendAt

namespace Go.Proofs.Ytopeidmafalklaa
open Go.RowKit

/-- a word is a NaN -/
def nanB (k : FloatKind) (b : Nat) : Bool := (k.format.read b).isNaN

/-- a word, all NaNs being one -/
def fl (k : FloatKind) (b : Nat) : Option Nat := if nanB k b then none else some b

def fop (op : BinOp) (k : FloatKind) (x y : Option Nat) : Option Nat := x.bind fun a => y.bind fun b => floatBits op k a b

def ford (k : FloatKind) (x y : Option Nat) : Option Ordering := x.bind fun a => y.bind fun b => k.format.order a b

/-- the word that an operation gives in a world -/
def fres (op : BinOp) (k : FloatKind) (x y : Nat) (t : Tape) (d : Nat) : Nat :=
  match floatBits op k x y with
  | some r => r
  | none => (Question.nanBits k x y).cut (t d (.nanBits k x y))

/-- how often an operation asks the tape -/
def fdr (op : BinOp) (k : FloatKind) (x y : Nat) : Nat := match floatBits op k x y with | some _ => 0 | none => 1

section
variable {P : Program} (w : World)
theorem run_farith (op : BinOp) (hop : op = .add ∨ op = .sub ∨ op = .mul ∨ op = .quo) (t : TypeId) (k : FloatKind) (x y : Nat) :
    (binOp op t (.float k x) (.float k y)).run P w = .ok (.float k (fres op k x y w.tape w.drawn)) (w.drewN (fdr op k x y)) := by
  cases h : floatBits op k x y with
  | some r =>
    have e : fres op k x y w.tape w.drawn = r := by simp [fres, h]
    have e2 : w.drewN (fdr op k x y) = w := by simp [fdr, h, World.drewN]
    rw [e, e2]
    exact run_float_arith w op t k x y r h
  | none =>
    have e : fres op k x y w.tape w.drawn = (Question.nanBits k x y).cut (w.tape w.drawn (.nanBits k x y)) := by simp [fres, h]
    have e2 : w.drewN (fdr op k x y) = w.drew := by simp [fdr, h]; rfl
    rw [e, e2]
    have hf : (Question.nanBits k x y).forced = false := rfl
    unfold floatBits at h
    rcases hop with rfl | rfl | rfl | rfl <;> simp only at h <;> simp [binOp, Op.floatArith, h, choose, Sem.run, hf] <;> rfl

theorem run_fadd (t : TypeId) (k : FloatKind) (x y : Nat) : (binOp .add t (.float k x) (.float k y)).run P w = .ok (.float k (fres .add k x y w.tape w.drawn)) (w.drewN (fdr .add k x y)) := run_farith w .add (by simp) t k x y
theorem run_fsub (t : TypeId) (k : FloatKind) (x y : Nat) : (binOp .sub t (.float k x) (.float k y)).run P w = .ok (.float k (fres .sub k x y w.tape w.drawn)) (w.drewN (fdr .sub k x y)) := run_farith w .sub (by simp) t k x y
theorem run_fmul (t : TypeId) (k : FloatKind) (x y : Nat) : (binOp .mul t (.float k x) (.float k y)).run P w = .ok (.float k (fres .mul k x y w.tape w.drawn)) (w.drewN (fdr .mul k x y)) := run_farith w .mul (by simp) t k x y
theorem run_fquo (t : TypeId) (k : FloatKind) (x y : Nat) : (binOp .quo t (.float k x) (.float k y)).run P w = .ok (.float k (fres .quo k x y w.tape w.drawn)) (w.drewN (fdr .quo k x y)) := run_farith w .quo (by simp) t k x y
end

/-! ### What a word stands for -/

theorem sw32 : Ieee.single.signWeight = 2147483648 := by decide
theorem sw64 : Ieee.double.signWeight = 9223372036854775808 := by decide
theorem bi32 : Ieee.single.binade = 8388608 := by decide
theorem bi64 : Ieee.double.binade = 4503599627370496 := by decide
theorem ir32 : Ieee.single.infRung = 2139095040 := by decide
theorem ir64 : Ieee.double.infRung = 9218868437227405312 := by decide

theorem isNaN_iff (f : Ieee.Format) (hf : f.binade ≤ f.infRung) (b : Nat) : (f.read b).isNaN = decide (f.infRung < b % f.signWeight) := by
  by_cases hc : f.infRung < b % f.signWeight
  · have n0 : ¬ b % f.signWeight < f.binade := by omega
    have n1 : ¬ b % f.signWeight < f.infRung := by omega
    have n2 : ¬ b % f.signWeight = f.infRung := by omega
    simp [Ieee.Format.read, n0, n1, n2, Ieee.Datum.isNaN, hc]
  · have e1 : decide (f.infRung < b % f.signWeight) = false := by simpa using hc
    rw [e1]
    unfold Ieee.Format.read
    dsimp only
    split
    · rfl
    split
    · rfl
    split
    · rfl
    · exfalso; omega

theorem bi_le (k : FloatKind) : k.format.binade ≤ k.format.infRung := by cases k <;> decide

theorem nanB_eq (k : FloatKind) (b : Nat) : nanB k b = decide (k.format.infRung < b % k.format.signWeight) := isNaN_iff _ (bi_le k) b

theorem word_mod (f : Ieee.Format) (neg : Bool) (r : Nat) (h : r < f.signWeight) : f.word neg r % f.signWeight = r := by
  unfold Ieee.Format.word
  split
  · rw [Nat.add_mod_left]; exact Nat.mod_eq_of_lt h
  · exact Nat.mod_eq_of_lt h

/-- what is written of a number or an infinity is no NaN -/
theorem nanB_write (k : FloatKind) (d : Ieee.Datum) (h : d.isNaN = false) : nanB k (k.format.write d) = false := by
  rw [nanB_eq, decide_eq_false_iff_not, Nat.not_lt]
  have hi := k.format.infRung_lt
  cases d with
  | number neg mag place =>
    unfold Ieee.Format.write Ieee.Format.nearest
    dsimp only
    split
    · rw [word_mod _ _ _ (Nat.two_pow_pos _)]; exact Nat.zero_le _
    · rw [word_mod _ _ _ (Nat.lt_of_le_of_lt (Nat.min_le_right ..) hi)]; exact Nat.min_le_right ..
  | infinity neg => unfold Ieee.Format.write; dsimp only; rw [word_mod _ _ _ hi]; exact Nat.le_refl _
  | nan neg fraction => simp [Ieee.Datum.isNaN] at h

theorem sum_nn {d e r : Ieee.Datum} (h : d.sum e = some r) : r.isNaN = false := by
  cases d <;> cases e <;> simp only [Ieee.Datum.sum, reduceCtorEq] at h <;> first | (cases h; rfl) | skip
  split at h
  · cases h; rfl
  · cases h
theorem product_nn {d e r : Ieee.Datum} (h : d.product e = some r) : r.isNaN = false := by
  cases d <;> cases e <;> simp only [Ieee.Datum.product, reduceCtorEq] at h <;> first | (cases h; rfl) | skip
  all_goals (split at h <;> first | (cases h; rfl) | cases h)
theorem quotient_nn {n : Nat} {d e r : Ieee.Datum} (h : d.quotient n e = some r) : r.isNaN = false := by
  cases d <;> cases e <;> simp only [Ieee.Datum.quotient, reduceCtorEq] at h <;> first | (cases h; rfl) | skip
  split at h
  · split at h
    · cases h
    · cases h; rfl
  · cases h; rfl

theorem isNaN_cases {d : Ieee.Datum} (h : d.isNaN = true) : ∃ s t, d = .nan s t := by
  cases d <;> simp [Ieee.Datum.isNaN] at h ⊢

theorem floatBits_nan {op : BinOp} {k : FloatKind} {x y : Nat} (h : nanB k x = true ∨ nanB k y = true) : floatBits op k x y = none := by
  unfold nanB at h
  have key : ∀ d e : Ieee.Datum, (d.isNaN = true ∨ e.isNaN = true) → d.sum e = none ∧ d.sum e.opposite = none ∧ d.product e = none ∧ ∀ n, d.quotient n e = none := by
    intro d e h
    rcases h with h | h <;> obtain ⟨s, t, rfl⟩ := isNaN_cases h
    · simp [Ieee.Datum.sum, Ieee.Datum.product, Ieee.Datum.quotient]
    · cases d <;> simp [Ieee.Datum.sum, Ieee.Datum.product, Ieee.Datum.quotient, Ieee.Datum.opposite]
  obtain ⟨h1, h2, h3, h4⟩ := key _ _ h
  unfold floatBits
  cases op <;> simp [Ieee.Format.add, Ieee.Format.sub, Ieee.Format.mul, Ieee.Format.div, h1, h2, h3, h4]

theorem opposite_nn {d : Ieee.Datum} (h : d.isNaN = false) : d.opposite.isNaN = false := by cases d <;> simp_all [Ieee.Datum.isNaN, Ieee.Datum.opposite]

theorem floatBits_nn {op : BinOp} {k : FloatKind} {x y r : Nat} (h : floatBits op k x y = some r) : nanB k r = false := by
  unfold floatBits at h
  have key : ∀ o : Option Ieee.Datum, (∀ d, o = some d → d.isNaN = false) → o.map k.format.write = some r → nanB k r = false := by
    intro o ho hm
    cases o with
    | none => cases hm
    | some d => cases hm; exact nanB_write k d (ho d rfl)
  split at h
  · exact key _ (fun d hd => sum_nn hd) h
  · exact key _ (fun d hd => sum_nn hd) h
  · exact key _ (fun d hd => product_nn hd) h
  · exact key _ (fun d hd => quotient_nn hd) h
  · cases h

theorem nanBits_nan (k : FloatKind) (x y t : Nat) : nanB k ((Question.nanBits k x y).cut t) = true := by
  rw [nanB_eq, decide_eq_true_eq]
  cases k
  · show Ieee.single.infRung < _ % Ieee.single.signWeight
    rw [ir32, sw32]
    have e : (Question.nanBits .f32 x y).cut t = (t % 2) * 2147483648 + 2139095040 + 1 + (t / 2) % 8388607 := rfl
    rw [e]
    have hm := Nat.mod_lt (t / 2) (show 0 < 8388607 by decide)
    rcases Nat.mod_two_eq_zero_or_one t with h | h <;> rw [h] <;> omega
  · show Ieee.double.infRung < _ % Ieee.double.signWeight
    rw [ir64, sw64]
    have e : (Question.nanBits .f64 x y).cut t = (t % 2) * 9223372036854775808 + 9218868437227405312 + 1 + (t / 2) % 4503599627370495 := rfl
    rw [e]
    have hm := Nat.mod_lt (t / 2) (show 0 < 4503599627370495 by decide)
    rcases Nat.mod_two_eq_zero_or_one t with h | h <;> rw [h] <;> omega

theorem fl_nan {k : FloatKind} {b : Nat} (h : nanB k b = true) : fl k b = none := by simp [fl, h]
theorem fl_nn {k : FloatKind} {b : Nat} (h : nanB k b = false) : fl k b = some b := by simp [fl, h]

/-- THE LAW OF AN OPERATION, up to the bits of a NaN -/
theorem fl_fres (op : BinOp) (k : FloatKind) (x y : Nat) (t : Tape) (d : Nat) : fl k (fres op k x y t d) = fop op k (fl k x) (fl k y) := by
  by_cases hx : nanB k x = true
  · rw [fl_nan hx]
    have h0 := floatBits_nan (op := op) (k := k) (x := x) (y := y) (.inl hx)
    have e : fres op k x y t d = (Question.nanBits k x y).cut (t d (.nanBits k x y)) := by simp [fres, h0]
    rw [e, fl_nan (nanBits_nan ..)]
    rfl
  by_cases hy : nanB k y = true
  · rw [fl_nan hy]
    have h0 := floatBits_nan (op := op) (k := k) (x := x) (y := y) (.inr hy)
    have e : fres op k x y t d = (Question.nanBits k x y).cut (t d (.nanBits k x y)) := by simp [fres, h0]
    rw [e, fl_nan (nanBits_nan ..)]
    unfold fop
    cases fl k x <;> rfl
  have hx' : nanB k x = false := by simpa using hx
  have hy' : nanB k y = false := by simpa using hy
  rw [fl_nn hx', fl_nn hy']
  show _ = floatBits op k x y
  cases h : floatBits op k x y with
  | some r =>
    have e : fres op k x y t d = r := by simp [fres, h]
    rw [e, fl_nn (floatBits_nn h)]
  | none =>
    have e : fres op k x y t d = (Question.nanBits k x y).cut (t d (.nanBits k x y)) := by simp [fres, h]
    rw [e, fl_nan (nanBits_nan ..)]

theorem order_fl (k : FloatKind) (x y : Nat) : k.format.order x y = ford k (fl k x) (fl k y) := by
  unfold ford Ieee.Format.order
  by_cases hx : nanB k x = true
  · rw [fl_nan hx]
    obtain ⟨s, u, e⟩ := isNaN_cases hx
    rw [e]
    rfl
  by_cases hy : nanB k y = true
  · rw [fl_nan hy]
    obtain ⟨s, u, e⟩ := isNaN_cases hy
    rw [e]
    cases k.format.read x <;> cases fl k x <;> rfl
  rw [fl_nn (by simpa using hx), fl_nn (by simpa using hy)]
  rfl

theorem wf32 {b : Nat} : (Lit.float .f32 b).wf = true ↔ b < 4294967296 := by simp [Lit.wf]
theorem wf64 {b : Nat} : (Lit.float .f64 b).wf = true ↔ b < 18446744073709551616 := by simp [Lit.wf]

theorem cmp_self (n : Int) : compare n n = Ordering.eq := by simp

theorem order_self (k : FloatKind) (x : Nat) (h : nanB k x = false) : k.format.order x x = some .eq := by
  unfold nanB at h
  unfold Ieee.Format.order
  cases hd : k.format.read x with
  | number s m i => simp [Ieee.Datum.order]
  | infinity s => simp [Ieee.Datum.order]
  | nan s t => rw [hd] at h; simp [Ieee.Datum.isNaN] at h

theorem order_nan (k : FloatKind) (x y : Nat) (h : nanB k x = true) : k.format.order x y = none := by rw [order_fl, fl_nan h]; rfl

theorem nanBits_wf (k : FloatKind) (x y t : Nat) : (Lit.float k ((Question.nanBits k x y).cut t)).wf = true := by
  cases k
  · have e : (Question.nanBits .f32 x y).cut t = (t % 2) * 2147483648 + 2139095040 + 1 + (t / 2) % 8388607 := rfl
    rw [e, wf32]
    have hm := Nat.mod_lt (t / 2) (show 0 < 8388607 by decide)
    rcases Nat.mod_two_eq_zero_or_one t with h | h <;> rw [h] <;> omega
  · have e : (Question.nanBits .f64 x y).cut t = (t % 2) * 9223372036854775808 + 9218868437227405312 + 1 + (t / 2) % 4503599627370495 := rfl
    rw [e, wf64]
    have hm := Nat.mod_lt (t / 2) (show 0 < 4503599627370495 by decide)
    rcases Nat.mod_two_eq_zero_or_one t with h | h <;> rw [h] <;> omega

theorem fres_wf (op : BinOp) (k : FloatKind) (x y : Nat) (t : Tape) (d : Nat) : (Lit.float k (fres op k x y t d)).wf = true := by
  unfold fres
  cases h : floatBits op k x y with
  | some r => exact floatBits_wf h
  | none => exact nanBits_wf ..

/-! ### float32 to float64 -/

/-- the word that a conversion gives in a world -/
def fcv (s : FloatKind) (b : Nat) (k : FloatKind) (t : Tape) (d : Nat) : Nat :=
  match floatToFloatBits s b k with
  | some r => r
  | none => if nanB s b then (Question.nanConv k b).cut (t d (.nanConv k b)) else (Question.floatToFloat b).cut (t d (.floatToFloat b))

def fcvd (s : FloatKind) (b : Nat) (k : FloatKind) : Nat := match floatToFloatBits s b k with | some _ => 0 | none => 1

section
variable {P : Program} (w : World)
theorem run_fcv (src dst : TypeId) (s k : FloatKind) (b : Nat) (hs : (P.underlying src).isSome = true) (hd : P.underlying dst = some (.float k)) :
    (convert src dst (.float s b)).run P w = .ok (.float k (fcv s b k w.tape w.drawn)) (w.drewN (fcvd s b k)) := by
  cases h : floatToFloatBits s b k with
  | some r =>
    have e : fcv s b k w.tape w.drawn = r := by simp [fcv, h]
    have e2 : w.drewN (fcvd s b k) = w := by simp [fcvd, h, World.drewN]
    rw [e, e2]
    exact run_convert_float_float w src dst s k b r hs hd h
  | none =>
    have e2 : w.drewN (fcvd s b k) = w.drew := by simp [fcvd, h]; rfl
    rw [e2]
    obtain ⟨u, hs'⟩ := Option.isSome_iff_exists.1 hs
    unfold floatToFloatBits at h
    split at h
    · cases h
    · rename_i ne
      have hq1 : (Question.nanConv k b).forced = false := rfl
      have hq2 : (Question.floatToFloat b).forced = false := rfl
      split at h
      · rename_i sg fr he
        have hn : nanB s b = true := by unfold nanB; unfold FloatKind.decode at he; rw [he]; rfl
        have e : fcv s b k w.tape w.drawn = (Question.nanConv k b).cut (w.tape w.drawn (.nanConv k b)) := by
          unfold fcv floatToFloatBits
          simp [ne, he, hn]
        rw [e]
        cases u <;> simp [convert, run_underlying hs', run_underlying hd, Conv.floatToFloat, ne, he, choose, Sem.run, hq1] <;> rfl
      · cases h
      · rename_i sg m e he
        split at h
        · rename_i ho
          have hn : nanB s b = false := by unfold nanB; unfold FloatKind.decode at he; rw [he]; rfl
          have e : fcv s b k w.tape w.drawn = (Question.floatToFloat b).cut (w.tape w.drawn (.floatToFloat b)) := by
            unfold fcv floatToFloatBits
            simp [ne, he, hn, ho]
          rw [e]
          cases u <;> simp [convert, run_underlying hs', run_underlying hd, Conv.floatToFloat, ne, he, ho, choose, Sem.run, hq2] <;> rfl
        · cases h
end

theorem read_rung (f : Ieee.Format) (neg : Bool) (r : Nat) (h : r < f.infRung) : (f.read (f.word neg r)).isInfinity = false := by
  have hi := f.infRung_lt
  unfold Ieee.Format.read
  dsimp only
  rw [word_mod _ _ _ (by omega)]
  split
  · rfl
  · rfl

theorem cut_le (neg : Bool) (n d : Nat) : Ieee.Toward.even.cut neg n d ≤ n + 1 := by
  unfold Ieee.Toward.cut
  dsimp only
  have h1 : n / (1 <<< min d (n.log2 + 2)) ≤ n := Nat.div_le_self ..
  have h2 := Bool.toNat_le (decide (1 <<< min d (n.log2 + 2) < 2 * (n % 1 <<< min d (n.log2 + 2))) || 1 <<< min d (n.log2 + 2) == 2 * (n % 1 <<< min d (n.log2 + 2)) && n / 1 <<< min d (n.log2 + 2) % 2 == 1)
  omega

/-- a number of at most 24 binary digits, its last place at most 104, is no infinity as a float64 -/
theorem wide_finite (neg : Bool) (m : Nat) (e : Int) (hm : m < 16777216) (he : e ≤ 104) : (Ieee.double.read (Ieee.double.nearest neg m e)).isInfinity = false := by
  unfold Ieee.Format.nearest
  split
  · refine read_rung _ _ _ ?_
    rw [ir64]; omega
  · rename_i h0
    refine read_rung _ _ _ ?_
    have hl : Ieee.double.leastPlace = -1074 := by decide
    have hf : (Ieee.double.fractionBits : Int) = 52 := by decide
    rw [hl, hf, bi64, ir64]
    have hlog : m.log2 < 24 := (Nat.log2_lt h0).2 hm
    refine Nat.lt_of_le_of_lt (Nat.min_le_left _ _) ?_
    have hL : max (e + (m.log2 : Int) - 52) (-1074) ≤ 76 := by omega
    have hL2 : e + (m.log2 : Int) - 52 ≤ max (e + (m.log2 : Int) - 52) (-1074) := by omega
    generalize max (e + (m.log2 : Int) - 52) (-1074) = L at *
    have hs : (e - L).toNat ≤ 52 - m.log2 := by omega
    have hk := cut_le neg (m <<< (e - L).toNat) (L - e).toNat
    have hshift : m <<< (e - L).toNat < 2 ^ 53 := by
      rw [Nat.shiftLeft_eq]
      have h1 : m < 2 ^ (m.log2 + 1) := Nat.lt_log2_self
      have h2 : 2 ^ (e - L).toNat ≤ 2 ^ (52 - m.log2) := Nat.pow_le_pow_right (by decide) hs
      have h3 : 2 ^ (m.log2 + 1) * 2 ^ (52 - m.log2) = 2 ^ 53 := by rw [← Nat.pow_add]; congr 1; omega
      have h4 : 0 < 2 ^ (52 - m.log2) := Nat.two_pow_pos _
      calc m * 2 ^ (e - L).toNat ≤ m * 2 ^ (52 - m.log2) := Nat.mul_le_mul_left _ h2
        _ < 2 ^ (m.log2 + 1) * 2 ^ (52 - m.log2) := Nat.mul_lt_mul_of_pos_right h1 h4
        _ = 2 ^ 53 := h3
    have hL3 : (L - (-1074)).toNat ≤ 1150 := by omega
    have h5 : (L - (-1074)).toNat * 4503599627370496 ≤ 1150 * 4503599627370496 := Nat.mul_le_mul_right _ hL3
    omega

theorem read_small (b : Nat) : ∀ s m e, Ieee.single.read b = .number s m e → m < 16777216 ∧ e ≤ 104 := by
  intro s m e h
  unfold Ieee.Format.read at h
  have hl : Ieee.single.leastPlace = -149 := by decide
  rw [bi32, ir32, sw32, hl] at h
  dsimp only at h
  split at h
  · cases h; omega
  · split at h
    · rename_i h1 h2
      simp only [Ieee.Datum.number.injEq] at h
      obtain ⟨_, rfl, rfl⟩ := h
      omega
    · split at h <;> cases h

/-- a float32 that is no NaN has a float64 -/
theorem widen_some (b : Nat) (h : nanB .f32 b = false) : ∃ r, floatToFloatBits .f32 b .f64 = some r ∧ nanB .f64 r = false := by
  unfold floatToFloatBits
  rw [if_neg (by decide)]
  unfold nanB at h
  have hd : FloatKind.f32.decode b = Ieee.single.read b := rfl
  rw [hd]
  have h' : (Ieee.single.read b).isNaN = false := h
  cases hr : Ieee.single.read b with
  | number s m e =>
    obtain ⟨h1, h2⟩ := read_small b s m e hr
    have h3 := wide_finite s m e h1 h2
    have h4 : (FloatKind.f64.decode (FloatKind.f64.encode (.number s m e))).isInfinity = false := h3
    simp only [h4]
    exact ⟨_, rfl, nanB_write .f64 _ rfl⟩
  | infinity s => exact ⟨_, rfl, nanB_write .f64 _ rfl⟩
  | nan s t => rw [hr] at h'; simp [Ieee.Datum.isNaN] at h'

/-- float64 of a float32, all NaNs being one -/
def widen (x : Option Nat) : Option Nat := x.bind fun b => floatToFloatBits .f32 b .f64

theorem nanConv_nan (b t : Nat) : nanB .f64 ((Question.nanConv .f64 b).cut t) = true := nanBits_nan .f64 0 0 t

theorem fl_widen (b : Nat) (t : Tape) (d : Nat) : fl .f64 (fcv .f32 b .f64 t d) = widen (fl .f32 b) := by
  by_cases hn : nanB .f32 b = true
  · have h0 : floatToFloatBits .f32 b .f64 = none := by
      unfold floatToFloatBits
      rw [if_neg (by decide)]
      obtain ⟨s, u, e⟩ := isNaN_cases hn
      have e' : FloatKind.f32.decode b = .nan s u := e
      rw [e']
    have e : fcv .f32 b .f64 t d = (Question.nanConv .f64 b).cut (t d (.nanConv .f64 b)) := by simp [fcv, h0, hn]
    rw [e, fl_nan (nanConv_nan ..), fl_nan hn]
    rfl
  · have hn' : nanB .f32 b = false := by simpa using hn
    obtain ⟨r, h1, h2⟩ := widen_some b hn'
    have e : fcv .f32 b .f64 t d = r := by simp [fcv, h1]
    rw [e, fl_nn h2, fl_nn hn']
    exact h1.symm

theorem run_fneg {P : Program} (k : FloatKind) (b : Nat) (w : World) : (Op.unary .neg (.float k b)).run P w = .ok (.float k (Op.negFloat k b)) w := rfl
attribute [go_sem] run_fneg
attribute [go_sem] run_fadd run_fsub run_fmul run_fquo run_fcv

end Go.Proofs.Ytopeidmafalklaa


namespace Go.Proofs.Ytopeidmafalklaa
open Go.RowKit

theorem run_store_float (P : Program) (w : World) (a : Addr) (m : Mode) (k : FloatKind) (b : Nat) : (store a (.float k b) m).run P w = stored P w a (.float k b) m := run_store P w a _ m rfl
theorem run_store_complex (P : Program) (w : World) (a : Addr) (m : Mode) (k : FloatKind) (x y : Nat) : (store a (.complex k x y) m).run P w = stored P w a (.complex k x y) m := run_store P w a _ m rfl

attribute [go_sem] run_store_float run_store_complex

/-- a slice's address, in a block below B, at which the cells xs lie -/
def Sl (w : World) (B : Nat) (A : Option Addr) (xs : List Value) : Prop :=
  xs = [] ∨ ∃ b off, A = some ⟨b, off, none⟩ ∧ b < B ∧ ∀ j u, xs[j]? = some u → w.cell? ⟨b, off + j, none⟩ = some u

section
variable {w w' : World} {B B' : Nat} {A : Option Addr} {xs : List Value}
theorem Sl.nil : Sl w B A [] := .inl rfl
theorem Sl.at_ (h : Sl w B A xs) {k : Nat} (hk : k < xs.length) : ∃ b off, A = some ⟨b, off, none⟩ ∧ b < B ∧ ∀ j u, xs[j]? = some u → w.cell? ⟨b, off + j, none⟩ = some u := by
  rcases h with rfl | h
  · simp at hk
  · exact h
theorem Sl.keep (h : Sl w B A xs) (hk : ∀ p : Addr, p.block < B → w'.cell? p = w.cell? p) : Sl w' B A xs := by
  rcases h with rfl | ⟨b, off, e, hb, hc⟩
  · exact .inl rfl
  · exact .inr ⟨b, off, e, hb, fun j u hu => (hk ⟨b, off + j, none⟩ hb).trans (hc j u hu)⟩
theorem Sl.more (h : Sl w B A xs) (hB : B ≤ B') : Sl w B' A xs := by
  rcases h with rfl | ⟨b, off, e, hb, hc⟩
  · exact .inl rfl
  · exact .inr ⟨b, off, e, Nat.lt_of_lt_of_le hb hB, hc⟩
theorem Sl.below (h : Sl w B A xs) (hb : Below B w w') : Sl w' B A xs := h.keep fun _ hp => hb.cell hp
theorem Sl.drewN (h : Sl w B A xs) (n : Nat) : Sl (w.drewN n) B A xs := h
theorem Sl.alloc (h : Sl w B A xs) (hB : B ≤ w.heap.size) (o : Obj) : Sl (w.alloc o) B A xs := h.below ((Below.refl _ _).alloc hB o)
theorem Sl.grown {row : Option Nat} (h : Sl w B A xs) (hg : w.grownBy w' row) (hB : B ≤ w.heap.size) (hr : ∀ k, row = some k → B ≤ k) : Sl w' B A xs := h.below ((Below.refl _ _).grown hg hB hr)
end

/-- the cell at an index, its value written -/
theorem Sl.get {w : World} {B : Nat} {A : Option Addr} {α : Type} {f : α → Value} {xs : List α} (h : Sl w B A (xs.map f)) (k : Nat) (hk : k < xs.length) :
    ∃ b off, A = some ⟨b, off, none⟩ ∧ b < B ∧ w.cell? ⟨b, off + k, none⟩ = some (f xs[k]) := by
  obtain ⟨b, off, e, hb, hc⟩ := h.at_ (k := k) (by simpa using hk)
  exact ⟨b, off, e, hb, hc k _ (by simp [hk])⟩

theorem below_drewN {B : Nat} {a w : World} (h : Below B a w) (n : Nat) : Below B a (w.drewN n) := ⟨h.os, h.tape, h.output, h.size, h.block⟩
theorem below_of_drewN (B : Nat) (w : World) (n : Nat) : Below B w (w.drewN n) := below_drewN (Below.refl _ _) n

/-- a row of one-cell elements that the call owns -/
abbrev Ow (w : World) (base : Nat) (e : TypeId) (v : Value) (xs : List Value) : Prop := w.ownsRow base e 1 v xs.length xs

theorem Ow.sl {w : World} {base : Nat} {e : TypeId} {v : Value} {xs : List Value} (h : Ow w base e v xs) : ∃ A cap, v = .slice A xs.length cap ∧ xs.length ≤ cap ∧ Sl w w.heap.size A xs := by
  rcases h.2 with ⟨rfl, h0⟩ | ⟨g, cap, cur, rfl, hb, hg, hc, hm, hs, ht⟩
  · have : xs = [] := List.eq_nil_of_length_eq_zero h0
    subst this
    exact ⟨none, 0, rfl, Nat.le_refl _, .inl rfl⟩
  · refine ⟨some ⟨g, 0, none⟩, cap, rfl, hc, .inr ⟨g, 0, rfl, (Array.getElem?_eq_some_iff.1 hg).1, fun j u hu => ?_⟩⟩
    have h1 := World.ownsRow.cellAt h j (by simpa using (List.getElem?_eq_some_iff.1 hu).1)
    rw [Nat.zero_add, h1, hu]

theorem own_below {w w' : World} {base : Nat} {e : TypeId} {size n : Nat} {v : Value} {xs : List Value} {B : Nat} (h : w.ownsRow base e size v n xs) (hb : Below B w w') (hB : w.heap.size ≤ B) : w'.ownsRow base e size v n xs := by
  refine ⟨h.1, ?_⟩
  rcases h.2 with hn | ⟨g, cap, cur, rfl, hbg, hg, rest⟩
  · exact .inl hn
  · refine .inr ⟨g, cap, cur, rfl, hbg, ?_, rest⟩
    rw [hb.block g (Nat.lt_of_lt_of_le (Array.getElem?_eq_some_iff.1 hg).1 hB)]
    exact hg
theorem own_base {w : World} {base base' : Nat} {e : TypeId} {size n : Nat} {v : Value} {xs : List Value} (h : w.ownsRow base e size v n xs) (hB : base' ≤ base) : w.ownsRow base' e size v n xs := by
  refine ⟨h.1, ?_⟩
  rcases h.2 with hn | ⟨g, cap, cur, rfl, hbg, hg, rest⟩
  · exact .inl hn
  · exact .inr ⟨g, cap, cur, rfl, Nat.le_trans hB hbg, hg, rest⟩

/-- a row that another call owns stays as it is where only a row from a later base on is written -/
theorem own_other {w w' : World} {base : Nat} {e : TypeId} {size n : Nat} {v : Value} {xs : List Value} {row : Option Nat} (h : w.ownsRow base e size v n xs) (hg : w.grownBy w' row) (hr : ∀ k, row = some k → ∀ j, v.ownBlock = some j → j ≠ k) : w'.ownsRow base e size v n xs :=
  h.kept hg (by
    rcases hv : v.ownBlock with _ | j
    · exact .inl rfl
    · refine .inr fun he => ?_
      cases hrow : row with
      | none => rw [hrow] at he; cases he
      | some k => rw [hrow] at he; injection he with he; exact hr k hrow j hv he)

theorem fill_set {α : Type} (xs : List α) (z : α) (n k : Nat) (hl : xs.length = n) (hk : k < n) :
    (List.take k xs ++ List.replicate (n - k) z).set k (xs[k]'(by omega)) = List.take (k + 1) xs ++ List.replicate (n - (k + 1)) z := by
  rw [List.take_succ_eq_append_getElem (by omega), List.set_append_right _ _ (by simp; omega), List.append_assoc]
  congr 1
  have : n - k = (n - (k+1)) + 1 := by omega
  have h2 : k - (List.take k xs).length = 0 := by simp; omega
  rw [h2, this, List.replicate_succ]
  rfl

theorem take_all {α : Type} {xs : List α} {n : Nat} (h : xs.length = n) : xs.take n = xs := List.take_of_length_le (Nat.le_of_eq h)

theorem ret_bool {a b : Bool} (h : a = b) : Ending.returned (.bool a) = .returned (.bool b) := by rw [h]
theorem ret_int {k : IntKind} {a b : Int} (h : a = b) : Ending.returned (.int k a) = .returned (.int k b) := by rw [h]

/-- a quiet call's contract, for a caller that only asks what was there -/
theorem calls_grow {P : Program} {f : FuncId} {args : Array Value} {w : World} {E : Ending → Prop} (h : Calls P f args w fun e w' => E e ∧ ∃ n, w' = w.drewN n) : Calls P f args w fun e w' => E e ∧ Below w.heap.size w w' :=
  h.mono fun _ _ ⟨he, n, hn⟩ => ⟨he, by rw [hn]; exact below_of_drewN _ _ _⟩

theorem sl_of_own {w : World} {base : Nat} {e : TypeId} {A : Option Addr} {n cap : Nat} {xs : List Value} (h : w.ownsRow base e 1 (.slice A n cap) n xs) : Sl w w.heap.size A xs := by
  have hl : xs.length = n := by simpa using h.1
  subst hl
  obtain ⟨A', cap', hv, _, hs⟩ := Ow.sl (v := .slice A xs.length cap) h
  injection hv with h1
  rw [h1]
  exact hs

theorem Ow.opn {w : World} {base : Nat} {e : TypeId} {v : Value} {α : Type} {f : α → Value} {xs : List α} (h : Ow w base e v (xs.map f)) : ∃ A cap, v = .slice A xs.length cap ∧ w.ownsRow base e 1 (.slice A xs.length cap) xs.length (xs.map f) := by
  obtain ⟨A, cap, hv, _, _⟩ := h.sl
  subst hv
  refine ⟨A, cap, by rw [List.length_map], ?_⟩
  unfold Ow at h
  simpa using h

/-- the blocks from a to b -/
def In (v : Value) (a b : Nat) : Prop := ∀ g, v.ownBlock = some g → a ≤ g ∧ g < b
theorem own_in {w : World} {base : Nat} {e : TypeId} {size n : Nat} {v : Value} {xs : List Value} (h : w.ownsRow base e size v n xs) : In v base w.heap.size := h.lt
/-- a row stays as it is where another one is written -/
theorem own_apart {w w' : World} {base : Nat} {e : TypeId} {size n : Nat} {v u : Value} {xs : List Value} (h : w.ownsRow base e size v n xs) (hg : w.grownBy w' u.ownBlock) {a b c d : Nat} (hv : In v a b) (hu : In u c d) (hs : b ≤ c ∨ d ≤ a) : w'.ownsRow base e size v n xs := by
  refine h.kept hg ?_
  cases hb : v.ownBlock with
  | none => exact .inl rfl
  | some g =>
    refine .inr fun he => ?_
    have h1 := hv g hb
    have h2 := hu g he.symm
    omega
theorem below_marked {B : Nat} {w w1 w' : World} {u : Value} (h : Below B w w1) (hg : w1.grownBy w' u.ownBlock) {c d : Nat} (hu : In u c d) (hc : B ≤ c) (hz : B ≤ w1.heap.size) : Below B w w' :=
  h.grown hg hz fun k hk => Nat.le_trans hc (hu k hk).1

theorem info_ok {P : Program} {e : TypeId} {z : Value} {bytes : Nat} (h : (P.info? e).map (fun i => (i.zero, i.size, i.bytes)) = some (some z, 1, bytes)) : ∃ i, P.info? e = some i ∧ i.zero = some z ∧ i.size = 1 ∧ i.bytes = bytes := by
  cases hi : P.info? e with
  | none => rw [hi] at h; cases h
  | some i => rw [hi] at h; simp at h; exact ⟨i, rfl, h.1, h.2.1, h.2.2⟩

/-- append of some one-cell elements to a row of the call's own -/
theorem appN {P : Program} {t e : TypeId} (ht : P.underlying t = some (.slice e)) {z : Value} {bytes : Nat} (hi : (P.info? e).map (fun i => (i.zero, i.size, i.bytes)) = some (some z, 1, bytes)) (hz : z.cells.size = 1) (hby : bytes ≤ 64)
    {w : World} {ops : Array Oper} {rest : List Oper} {o : Oper} {a : Act} {Q : Exit → Act → World → Prop} (hgd : o.guard = none) (s x : Operand)
    (ho : o.op = .call { callee := .builtin .append, args := #[s, x], argTypes := #[t, t] }) (base : Nat) (v : Value) (xs : List Value) (hs : a.eval s = v) (hown : Ow w base e v xs)
    (g m c : Nat) (news : List Value) (hx : a.eval x = .slice (some ⟨g, 0, none⟩) m c) (hm : news.length = m) (hc : ∀ j u, news[j]? = some u → w.cell? ⟨g, j, none⟩ = some u) (h1 : ∀ u ∈ news, u.oneCell' = true)
    (hlen : xs.length + m ≤ 1099511627776) (hbase : base ≤ w.heap.size)
    (h : ∀ v' w', Ow w' base e v' (xs ++ news) → Below base w w' → wpList P ops Q rest (a.put o.dst v') w') : wpList P ops Q (o :: rest) a w := by
  obtain ⟨i, hi1, hi2, hi3, hi4⟩ := info_ok hi
  refine wpList_append_own (P := P) w hgd s x t ho base e i z 1 bytes ht hi1 hi2 hi3 hi4 hz (by decide) v xs.length xs hs hown ⟨g, 0, none⟩ m c news hx (by omega) ?_ h1 ?_ ?_ hbase ?_
  · intro j u hu
    have e1 : (⟨g, 0, none⟩ : Addr).add j = ⟨g, j, none⟩ := by unfold Addr.add; split <;> simp_all
    rw [e1]
    exact hc j u hu
  · unfold maxLen; omega
  · have h2 : (xs.length + m) * bytes ≤ 1099511627776 * 64 := Nat.mul_le_mul hlen hby
    omega
  · intro v' w' h2 h3 _
    refine h v' w' ?_ ((Below.refl base w).grown h3 hbase fun k hk => (hown.lt k hk).1)
    unfold Ow
    rw [List.length_append, hm]
    exact h2

/-- append of one element, just laid -/
theorem app1 {P : Program} {t e : TypeId} (ht : P.underlying t = some (.slice e)) {z : Value} {bytes : Nat} (hi : (P.info? e).map (fun i => (i.zero, i.size, i.bytes)) = some (some z, 1, bytes)) (hz : z.cells.size = 1) (hby : bytes ≤ 64)
    {w : World} {ops : Array Oper} {rest : List Oper} {o : Oper} {a : Act} {Q : Exit → Act → World → Prop} (hgd : o.guard = none) (s x : Operand)
    (ho : o.op = .call { callee := .builtin .append, args := #[s, x], argTypes := #[t, t] }) (base : Nat) (v : Value) (xs : List Value) (hs : a.eval s = v) (hown : Ow w base e v xs)
    (g c : Nat) (u : Value) (hx : a.eval x = .slice (some ⟨g, 0, none⟩) 1 c) (hc : w.cell? ⟨g, 0, none⟩ = some u) (h1 : u.oneCell' = true)
    (hlen : xs.length + 1 ≤ 1099511627776) (hbase : base ≤ w.heap.size)
    (h : ∀ v' w', Ow w' base e v' (xs ++ [u]) → Below base w w' → wpList P ops Q rest (a.put o.dst v') w') : wpList P ops Q (o :: rest) a w :=
  appN ht hi hz hby hgd s x ho base v xs hs hown g 1 c [u] hx rfl (fun j u' hu => by
    cases j with
    | zero => cases hu; exact hc
    | succ j => cases hu) (by simpa using h1) hlen hbase h

theorem own_empty (w : World) (base : Nat) (e : TypeId) (hb : base ≤ w.heap.size) : Ow (w.alloc (.cells #[] e)) base e (.slice (some ⟨w.heap.size, 0, none⟩) 0 0) [] :=
  World.ownsRow_lit w #[] 0 hb (by simp [maxLen]) rfl

theorem cell_new1 (w : World) (u : Value) (e : TypeId) : (w.alloc (.cells #[u] e)).cell? ⟨w.heap.size, 0, none⟩ = some u := by
  have h := cell_of_row (w.alloc (.cells #[u] e)) w.heap.size 0 #[u] e (0, 0) (heap_alloc_new w _)
  rw [h]; rfl

/-- make of a row of one-cell elements, in whatever world -/
def zeroRow (z : Value) (n : Nat) : Array Value := (List.replicate n z).toArray
theorem run_mk {P : Program} {t e : TypeId} (ht : P.underlying t = some (.slice e)) {z : Value} {bytes : Nat} (hi : (P.info? e).map (fun i => (i.zero, i.size, i.bytes)) = some (some z, 1, bytes)) (hz : z.cells = #[z]) (hby : bytes ≤ 64) (n : Nat) (hn : n ≤ 1099511627776) (kl kc : IntKind) (w : World) :
    (Instr.makeSlice t (.int kl (n : Int)) (.int kc (n : Int))).run P w = .ok (.slice (some ⟨w.heap.size, 0, none⟩) n n) (w.alloc (.cells (zeroRow z n) e)) := by
  obtain ⟨i, hi1, hi2, hi3, hi4⟩ := info_ok hi
  have h2 : bytes * n ≤ 64 * 1099511627776 := Nat.mul_le_mul hby hn
  have hb : (i.bytes : Int) * (n : Int) ≤ 281474976710656 := by
    have h : ((i.bytes * n : Nat) : Int) ≤ 281474976710656 := by rw [hi4]; omega
    rwa [Int.natCast_mul] at h
  have hr := run_make (P := P) w t e i z ht hi1 hi2 kl kc n n (by omega) (Int.le_refl _) hb (by omega)
  simp only [Int.toNat_natCast, hi3, Nat.mul_one, hz] at hr
  have e1 : madeCells #[z] n = zeroRow z n := by
    apply Array.ext'
    rw [toList_madeCells_one]
    rfl
  rw [e1] at hr
  exact hr
theorem zeroRow_size (z : Value) (n : Nat) : (zeroRow z n).size = n := by simp [zeroRow]
theorem own_mk (w : World) (base : Nat) (e : TypeId) (z : Value) (n : Nat) (hb : base ≤ w.heap.size) (hn : n ≤ 1099511627776) :
    (w.alloc (.cells (zeroRow z n) e)).ownsRow base e 1 (.slice (some ⟨w.heap.size, 0, none⟩) n n) n (List.replicate n z) := by
  have h := World.ownsRow_lit (e := e) (size := 1) w (zeroRow z n) n hb (by unfold maxLen; omega) (by simp [zeroRow_size])
  simpa [zeroRow] using h

theorem cell_set_same (w : World) (p : Addr) (u v : Value) (h : w.cell? p = some u) : (w.setCell p v).cell? p = some v := by
  first | exact World.cell?_setCell_same w p u v h | (simp [World.cell?_setCell_same, h])
theorem frozen_set (w : World) (p q : Addr) (v : Value) : (w.setCell p v).frozen? q = w.frozen? q := by
  first | exact World.frozen?_setCell w p q v | simp

theorem run_append_nil_src {P : Program} (w : World) (base : Nat) (t ty e : TypeId) (i : TypeInfo) (size : Nat) (ht : P.underlying t = some (.slice e)) (hi : P.info? e = some i)
    (v : Value) (n : Nat) (xs : List Value) (hown : w.ownsRow base e size v n xs) (c : Nat) : (Builtin.append_ #[t, t] ty #[v, .slice none 0 c]).run P w = .ok v w := by
  rcases hown.2 with ⟨rfl, rfl⟩ | ⟨g, cap, cur, rfl, _, _, hnc, _⟩
  · simp [Builtin.append_, run_underlying ht, sizeOf, typeInfo, hi, Builtin.lenOf, Builtin.firstCells]
  · simp [Builtin.append_, run_underlying ht, sizeOf, typeInfo, hi, Builtin.lenOf, Builtin.firstCells, hnc, storeCells]

/-- append of a slice's elements, nil let in -/
theorem appS {P : Program} {t e : TypeId} (ht : P.underlying t = some (.slice e)) {z : Value} {bytes : Nat} (hi : (P.info? e).map (fun i => (i.zero, i.size, i.bytes)) = some (some z, 1, bytes)) (hz : z.cells.size = 1) (hby : bytes ≤ 64)
    {w : World} {ops : Array Oper} {rest : List Oper} {o : Oper} {a : Act} {Q : Exit → Act → World → Prop} (hgd : o.guard = none) (s x : Operand)
    (ho : o.op = .call { callee := .builtin .append, args := #[s, x], argTypes := #[t, t] }) (base : Nat) (v : Value) (xs : List Value) (hs : a.eval s = v) (hown : Ow w base e v xs)
    (B : Nat) (A : Option Addr) (m c : Nat) (news : List Value) (hx : a.eval x = .slice A m c) (hm : news.length = m) (hsl : Sl w B A news) (h1 : ∀ u ∈ news, u.oneCell' = true)
    (hlen : xs.length + m ≤ 1099511627776) (hbase : base ≤ w.heap.size)
    (h : ∀ v' w', Ow w' base e v' (xs ++ news) → Below base w w' → wpList P ops Q rest (a.put o.dst v') w') : wpList P ops Q (o :: rest) a w := by
  obtain ⟨i, hi1, hi2, hi3, hi4⟩ := info_ok hi
  cases A with
  | none =>
    have hn : news = [] := by
      rcases hsl with h0 | ⟨b, off, he, _⟩
      · exact h0
      · cases he
    subst hn
    have hm0 : m = 0 := by simpa using hm.symm
    subst hm0
    refine wpList_plain hgd fun K hK => ?_
    have hrun := run_append_nil_src (P := P) w base t o.type e i 1 ht hi1 v xs.length xs hown c
    unfold Oper.wp
    simp [execOp, ho, resolve, invoke, builtin, hs, hx, hrun, Result.andThen]
    exact hK _ _ (h v w (by simpa using hown) (Below.refl _ _))
  | some ad =>
    refine wpList_append_own (P := P) w hgd s x t ho base e i z 1 bytes ht hi1 hi2 hi3 hi4 hz (by decide) v xs.length xs hs hown ad m c news hx (by omega) ?_ h1 ?_ ?_ hbase ?_
    · intro j u hu
      rcases hsl with h0 | ⟨b, off, he, _, hc⟩
      · subst h0; simp at hu
      · injection he with he
        subst he
        have e1 : (⟨b, off, none⟩ : Addr).add j = ⟨b, off + j, none⟩ := by unfold Addr.add; split <;> simp_all
        rw [e1]
        exact hc j u hu
    · unfold maxLen; omega
    · have h2 : (xs.length + m) * bytes ≤ 1099511627776 * 64 := Nat.mul_le_mul hlen hby
      omega
    · intro v' w' h2 h3 _
      refine h v' w' ?_ ((Below.refl base w).grown h3 hbase fun k hk => (hown.lt k hk).1)
      unfold Ow
      rw [List.length_append, hm]
      exact h2
theorem one_bool {xs : List Bool} : ∀ u ∈ xs.map Value.bool, u.oneCell' = true := by
  intro u hu
  obtain ⟨b, _, rfl⟩ := List.mem_map.1 hu
  rfl
theorem one_int {k : IntKind} {xs : List Int} : ∀ u ∈ xs.map (Value.int k), u.oneCell' = true := by
  intro u hu
  obtain ⟨b, _, rfl⟩ := List.mem_map.1 hu
  rfl
theorem one_float {k : FloatKind} {xs : List Nat} : ∀ u ∈ xs.map (Value.float k), u.oneCell' = true := by
  intro u hu
  obtain ⟨b, _, rfl⟩ := List.mem_map.1 hu
  rfl

end Go.Proofs.Ytopeidmafalklaa


namespace Go.Proofs.Ytopeidmafalklaa
open Go

section
variable {P : Program} {ops : Array Oper} {md : Region.Mode} {C : World → Prop} {Rv : FuncId → Array Value → Value → Prop}

/-- what is asked of an operation's outcome: the class is kept, and what follows holds of whatever value it yields -/
def relUpon (P : Program) (C : World → Prop) (Rv : FuncId → Array Value → Value → Prop) (next : Value → Prop) : Result Next → Prop
  | .ok (.value u) w' => C w' ∧ next u
  | .ok .skip w' => C w' ∧ next undef
  | .ok (.enter f args) w' => Calls P f args w' (fun e w'' => ∃ v, e = .returned v ∧ Rv f args v ∧ C w'') ∧ ∀ v, Rv f args v → next v
  | _ => False

def operRel (P : Program) (o : Oper) (a : Act) (C : World → Prop) (Rv : FuncId → Array Value → Value → Prop) (next : Act → Prop) : Prop :=
  ∀ w, C w → relUpon P C Rv (fun v => next (a.put o.dst v)) ((execOp a.eval o).run P w)

def wpRel (P : Program) (ops : Array Oper) (C : World → Prop) (Rv : FuncId → Array Value → Value → Prop) (Q : Act → Prop) : List Oper → Act → Prop
  | [], a => Q a
  | o :: rest, a => if Region.wanted o (yielded ops a.tmps) then operRel P o a C Rv (wpRel P ops C Rv Q rest) else wpRel P ops C Rv Q rest (a.put o.dst undef)

theorem wpRel_nil {Q : Act → Prop} {a : Act} (h : Q a) : wpRel P ops C Rv Q [] a := h
theorem wpRel_step {Q : Act → Prop} {a : Act} {o : Oper} {rest : List Oper}
    (h : ∀ K : Act → Prop, (∀ a, wpRel P ops C Rv Q rest a → K a) → if Region.wanted o (yielded ops a.tmps) then operRel P o a C Rv K else K (a.put o.dst undef)) : wpRel P ops C Rv Q (o :: rest) a :=
  h _ (fun _ h => h)

def rOp (P : Program) (ops : Array Oper) (C : World → Prop) (Rv : FuncId → Array Value → Value → Prop) (i : Nat) (K : Act → Prop) (a : Act) : Prop :=
  match ops[i]? with
  | none => K a
  | some o => if Region.wanted o (yielded ops a.tmps) then operRel P o a C Rv K else K (a.put o.dst undef)

theorem relUpon_mono {next next' : Value → Prop} (h : ∀ v, next v → next' v) {r : Result Next} (hh : relUpon P C Rv next r) : relUpon P C Rv next' r := by
  cases r with
  | ok n w' =>
    cases n <;> simp only [relUpon] at hh ⊢
    · exact ⟨hh.1, h _ hh.2⟩
    · exact ⟨hh.1, h _ hh.2⟩
    · exact ⟨hh.1, fun v hv => h v (hh.2 v hv)⟩
  | halt x w' => simp only [relUpon] at hh

theorem operRel_mono {o : Oper} {a : Act} {K K' : Act → Prop} (h : ∀ a, K a → K' a) (hh : operRel P o a C Rv K) : operRel P o a C Rv K' :=
  fun w hw => relUpon_mono (fun _ => h _) (hh w hw)

theorem rOp_mono {i : Nat} {a : Act} {K K' : Act → Prop} (h : ∀ a, K a → K' a) (hh : rOp P ops C Rv i K a) : rOp P ops C Rv i K' a := by
  unfold rOp at *
  split
  · exact h _ (by simpa [*] using hh)
  · rename_i o ho
    simp only [ho] at hh
    split
    · rename_i hw; simp only [hw, if_true] at hh; exact operRel_mono h hh
    · rename_i hw; simp only [hw] at hh; exact h _ hh

def wpAnyR (P : Program) (md : Region.Mode) (ops : Array Oper) (C : World → Prop) (Rv : FuncId → Array Value → Value → Prop) (Q : Act → Prop) : Nat → Array Bool → Act → Prop
  | 0, listed, a => Region.ready md ops listed = [] ∧ Q a
  | fuel + 1, listed, a =>
    (Region.ready md ops listed = [] → Q a) ∧
    ∀ i ∈ Region.ready md ops listed, rOp P ops C Rv i (wpAnyR P md ops C Rv Q fuel (listed.setIfInBounds i true)) a

theorem wp_of_operRel {o : Oper} {a : Act} {K : Act → Prop} {K' : Act → World → Prop} {Q' : Exit → Act → World → Prop} {w : World} (hw : C w) (h : ∀ a w', C w' → K a → K' a w') (hh : operRel P o a C Rv K) : o.wp P a w K' Q' := by
  have h3 := hh w hw
  unfold Oper.wp
  generalize (execOp a.eval o).run P w = r at *
  cases r with
  | ok n w' =>
    cases n <;> simp only [relUpon] at h3 <;> simp only [Oper.upon]
    case value u => exact h _ _ h3.1 h3.2
    case skip => exact h _ _ h3.1 h3.2
    case enter f args => exact h3.1.mono fun e w'' ⟨v, he, hv, hw''⟩ => by subst he; exact h _ _ hw'' (h3.2 v hv)
  | halt x w' => simp only [relUpon] at h3

theorem wpOp_of_rOp {i : Nat} {a : Act} {K : Act → Prop} {K' : Act → World → Prop} {Q' : Exit → Act → World → Prop} {w : World} (hC : C w) (h : ∀ a w', C w' → K a → K' a w') (hh : rOp P ops C Rv i K a) : wpOp P ops Q' i K' a w := by
  unfold rOp at hh
  unfold wpOp
  split
  · rename_i ho; simp only [ho] at hh; exact h _ _ hC hh
  · rename_i o ho
    simp only [ho] at hh
    split
    · rename_i hw; simp only [hw, if_true] at hh; exact .inl (wp_of_operRel hC h hh)
    · rename_i hw; simp only [hw] at hh; exact h _ _ hC hh

theorem wpAny_of_rel {Q : Act → Prop} {Q' : Exit → Act → World → Prop} (hQ : ∀ a w, C w → Q a → Q' .normal a w) : ∀ (fuel : Nat) (listed : Array Bool) (a : Act) (w : World), C w →
    wpAnyR P md ops C Rv Q fuel listed a → wpAny P md ops Q' fuel listed a w
  | 0, _, _, _, hw, h => ⟨h.1, hQ _ _ hw h.2⟩
  | fuel + 1, _, _, _, hw, h => ⟨fun h0 => hQ _ _ hw (h.1 h0), fun i hi => wpOp_of_rOp hw (fun a' w' hw' => wpAny_of_rel hQ fuel _ a' w' hw') (h.2 i hi)⟩

/-- the operation comes to an end in every world of the class -/
def safeR (P : Program) (ops : Array Oper) (C : World → Prop) (Rv : FuncId → Array Value → Value → Prop) (o : Oper) (a : Act) : Prop :=
  Region.wanted o (yielded ops a.tmps) = true → ∀ w, C w → relUpon P C Rv (fun _ => True) ((execOp a.eval o).run P w)

def gives (Rv : FuncId → Array Value → Value → Prop) (v : Value) : Result Next → Prop
  | .ok (.value u) _ => u = v
  | .ok .skip _ => v = undef
  | .ok (.enter f args) _ => Rv f args v
  | _ => False

/-- the values that it may yield -/
def mayR (P : Program) (ops : Array Oper) (C : World → Prop) (Rv : FuncId → Array Value → Value → Prop) (o : Oper) (a : Act) (v : Value) : Prop :=
  (Region.wanted o (yielded ops a.tmps) = true ∧ ∃ w, C w ∧ gives Rv v ((execOp a.eval o).run P w)) ∨ (Region.wanted o (yielded ops a.tmps) = false ∧ v = undef)

theorem upon_gives {next : Value → Prop} {r : Result Next} (h : relUpon P C Rv next r) {v : Value} (hv : gives Rv v r) : next v := by
  cases r with
  | ok n w' =>
    cases n <;> simp only [relUpon] at h <;> simp only [gives] at hv
    · subst hv; exact h.2
    · subst hv; exact h.2
    · exact h.2 v hv
  | halt x w' => simp only [relUpon] at h

theorem upon_of {next : Value → Prop} {r : Result Next} (h : relUpon P C Rv (fun _ => True) r) (hn : ∀ v, gives Rv v r → next v) : relUpon P C Rv next r := by
  cases r with
  | ok n w' =>
    cases n <;> simp only [relUpon] at h ⊢ <;> simp only [gives] at hn
    · exact ⟨h.1, hn _ rfl⟩
    · exact ⟨h.1, hn _ rfl⟩
    · exact ⟨h.1, fun v hv => hn v hv⟩
  | halt x w' => simp only [relUpon] at h

theorem gives_some {r : Result Next} (h : relUpon P C Rv (fun _ => True) r) : ∃ v, gives Rv v r := by
  cases r with
  | ok n w' =>
    cases n <;> simp only [relUpon] at h <;> simp only [gives]
    · exact ⟨_, rfl⟩
    · exact ⟨_, rfl⟩
    · obtain ⟨e, w2, fr, ⟨v, _, hv, _⟩, _⟩ := h.1 []
      exact ⟨v, hv⟩
  | halt x w' => simp only [relUpon] at h

theorem rOp_iff {i : Nat} {o : Oper} {a : Act} {K : Act → Prop} (hi : ops[i]? = some o) : rOp P ops C Rv i K a ↔ safeR P ops C Rv o a ∧ ∀ v, mayR P ops C Rv o a v → K (a.put o.dst v) := by
  unfold rOp
  simp only [hi]
  by_cases hw : Region.wanted o (yielded ops a.tmps) = true
  · simp only [hw, if_true]
    constructor
    · intro h
      refine ⟨fun _ w hC => relUpon_mono (fun _ _ => trivial) (h w hC), fun v hv => ?_⟩
      rcases hv with ⟨_, w, hC, hg⟩ | ⟨hf, _⟩
      · exact upon_gives (h w hC) hg
      · rw [hw] at hf; cases hf
    · rintro ⟨hs, hK⟩ w hC
      exact upon_of (hs hw w hC) fun v hv => hK v (.inl ⟨hw, w, hC, hv⟩)
  · simp only [hw]
    have hw' : Region.wanted o (yielded ops a.tmps) = false := by simpa using hw
    constructor
    · intro h
      refine ⟨fun hf => absurd hf hw, fun v hv => ?_⟩
      rcases hv with ⟨hf, _⟩ | ⟨_, rfl⟩
      · exact absurd hf hw
      · exact h
    · rintro ⟨_, hK⟩
      exact hK _ (.inr ⟨hw', rfl⟩)

theorem mayR_some {o : Oper} {a : Act} (hC : ∃ w, C w) (hs : safeR P ops C Rv o a) : ∃ v, mayR P ops C Rv o a v := by
  by_cases hw : Region.wanted o (yielded ops a.tmps) = true
  · obtain ⟨w, hw'⟩ := hC
    obtain ⟨v, hv⟩ := gives_some (hs hw w hw')
    exact ⟨v, .inl ⟨hw, w, hw', hv⟩⟩
  · exact ⟨undef, .inr ⟨by simpa using hw, rfl⟩⟩

theorem safeR_same {o : Oper} {a a' : Act} (he : execOp a'.eval o = execOp a.eval o) (hw : Region.wanted o (yielded ops a'.tmps) = Region.wanted o (yielded ops a.tmps)) : safeR P ops C Rv o a' ↔ safeR P ops C Rv o a := by
  unfold safeR
  rw [he, hw]
theorem mayR_same {o : Oper} {a a' : Act} {v : Value} (he : execOp a'.eval o = execOp a.eval o) (hw : Region.wanted o (yielded ops a'.tmps) = Region.wanted o (yielded ops a.tmps)) : mayR P ops C Rv o a' v ↔ mayR P ops C Rv o a v := by
  unfold mayR
  rw [he, hw]

theorem rOp_put {j : Nat} {oi oj : Oper} (hj : ops[j]? = some oj) (hap : oi.apart ops oj = true) (hC : ∃ w, C w)
    (hsi : ∀ cs b, oi.op ≠ .select cs b) (hsj : ∀ cs b, oj.op ≠ .select cs b) {K : Act → Prop} {a : Act}
    (hs : safeR P ops C Rv oi a) (h : ∀ v, mayR P ops C Rv oi a v → rOp P ops C Rv j K (a.put oi.dst v)) :
    rOp P ops C Rv j (fun a' => safeR P ops C Rv oi a' ∧ ∀ v, mayR P ops C Rv oi a' v → K (a'.put oi.dst v)) a := by
  obtain ⟨h1, h2, h3⟩ := Oper.apart_spec hap
  rw [rOp_iff hj]
  refine ⟨?_, fun u hu => ⟨?_, fun v hv => ?_⟩⟩
  · obtain ⟨v, hv⟩ := mayR_some hC hs
    exact (safeR_same (execOp_put oj hsj a oi.dst v h1) (wanted_put oj a oi.dst v h1)).1 ((rOp_iff hj).1 (h v hv)).1
  · exact (safeR_same (execOp_put oi hsi a oj.dst u h3) (wanted_put oi a oj.dst u h3)).2 hs
  · have hv' := (mayR_same (execOp_put oi hsi a oj.dst u h3) (wanted_put oi a oj.dst u h3)).1 hv
    have := ((rOp_iff hj).1 (h v hv')).2 u ((mayR_same (execOp_put oj hsj a oi.dst v h1) (wanted_put oj a oi.dst v h1)).2 hu)
    rw [← Act.put_comm a v u h2]
    exact this

theorem wpAnyR_first {Q : Act → Prop} {i : Nat} {oi : Oper} (hC : ∃ w, C w) (hi : ops[i]? = some oi) (hsel : ∀ (j : Nat) (o : Oper) cs b, ops[j]? = some o → o.op ≠ .select cs b) :
    ∀ (fuel : Nat) (listed : Array Bool) (a : Act),
      (∀ j oj, ops[j]? = some oj → j ≠ i → listed.getD j true = false → (∀ e ∈ oj.after, Region.binds md e = true → e.on ≠ i) → oi.apart ops oj = true) →
      i ∈ Region.ready md ops listed → safeR P ops C Rv oi a →
      (∀ v, mayR P ops C Rv oi a v → wpAnyR P md ops C Rv Q fuel (listed.setIfInBounds i true) (a.put oi.dst v)) → wpAnyR P md ops C Rv Q (fuel + 1) listed a := by
  intro fuel
  induction fuel with
  | zero =>
    intro listed a _ hr hy H
    refine ⟨fun h => (by rw [h] at hr; cases hr), fun j hj => ?_⟩
    by_cases hji : j = i
    · subst hji; exact (rOp_iff hi).2 ⟨hy, H⟩
    · have := ready_mono hj hji
      obtain ⟨v, hv⟩ := mayR_some hC hy
      rw [(H v hv).1] at this
      cases this
  | succ fuel ih =>
    intro listed a hfree hr hy H
    refine ⟨fun h => (by rw [h] at hr; cases hr), fun j hj => ?_⟩
    by_cases hji : j = i
    · subst hji; exact (rOp_iff hi).2 ⟨hy, H⟩
    · have h1 := fun v hv => (H v hv).2 j (ready_mono hj hji)
      obtain ⟨hjun, oj, hoj, hall⟩ := mem_ready.1 hj
      have hnot : ∀ e ∈ oj.after, Region.binds md e = true → e.on ≠ i := fun e he hb heq => by
        have h1 := hall e he hb
        have h0 := (mem_ready.1 hr).1
        rw [heq] at h1
        rcases Nat.lt_or_ge i listed.size with h' | h'
        · simp [h'] at h0 h1; rw [h0] at h1; cases h1
        · simp [Array.getElem?_eq_none h'] at h1
      have h2 := rOp_put hoj (hfree j oj hoj hji hjun hnot) hC (fun cs b => hsel i oi cs b hi) (fun cs b => hsel j oj cs b hoj) hy h1
      have hfree' : ∀ k ok, ops[k]? = some ok → k ≠ i → (listed.setIfInBounds j true).getD k true = false →
          (∀ e ∈ ok.after, Region.binds md e = true → e.on ≠ i) → oi.apart ops ok = true := fun k ok hk hki hun hno => by
        refine hfree k ok hk hki ?_ hno
        by_cases hjk : j = k
        · subst hjk; exact hjun
        · rw [getD_set_ne true hjk] at hun; exact hun
      refine rOp_mono (fun a' h3 => ih (listed.setIfInBounds j true) a' hfree' (ready_mono hr (Ne.symm hji)) h3.1 ?_) h2
      intro v hv
      rw [Array.setIfInBounds_comm _ _ hji]
      exact h3.2 v hv

theorem wpAnyR_lex {Q : Act → Prop} (hC : ∃ w, C w) (hs : Region.noSelect ops = true) : ∀ (l : List Oper) (k : Nat) (listed : Array Bool) (a : Act), (∀ j, l[j]? = ops[k + j]?) →
    Region.lexFrom md ops l.length k listed = true → wpRel P ops C Rv Q l a → wpAnyR P md ops C Rv Q l.length listed a
  | [], _, _, _, _, hB, h => ⟨by simpa [Region.lexFrom] using hB, h⟩
  | o :: l, k, listed, a, hl, hB, h => by
    have h0 : ops[k]? = some o := by simpa using (hl 0).symm
    simp only [List.length_cons, Region.lexFrom, Bool.and_eq_true] at hB
    obtain ⟨⟨hr, hf⟩, hB'⟩ := hB
    have hst : rOp P ops C Rv k (wpRel P ops C Rv Q l) a := by unfold rOp; simp only [h0]; exact h
    obtain ⟨hy, hK⟩ := (rOp_iff h0).1 hst
    exact wpAnyR_first hC h0 (Region.noSelect_spec hs) l.length listed a (Region.free_spec h0 hf) (by simpa using hr) hy
      (fun v hv => wpAnyR_lex hC hs l (k + 1) _ _ (fun j => by have := hl (j + 1); simpa [Nat.add_assoc, Nat.add_comm 1 j] using this) hB' (hK v hv))

theorem wp_region_rel {id : Nat} {Q : Exit → Act → World → Prop} {a : Act} {w : World} (hm : P.follows .mixedOrders = true) (hB : Region.lexB .any ops = true) (hC : C { w with drawn := w.drawn + 1 })
    (h : wpRel P ops C Rv (fun a' => ∀ w', C w' → Q .normal a' w') ops.toList a) : (Code.region id ops true).wp P Q a w := by
  simp only [Region.lexB, Bool.and_eq_true] at hB
  refine wp_region_any hm (wpAny_of_rel (Rv := Rv) (Q := fun a' => ∀ w', C w' → Q .normal a' w') (fun _ w' hw' h => h w' hw') _ _ _ _ hC ?_)
  have := wpAnyR_lex (C := C) (Rv := Rv) (md := .any) ⟨_, hC⟩ hB.1 ops.toList 0 (Array.replicate ops.size false) a (by simp) (by simpa using hB.2) h
  simpa using this

/-! ### The last operations in one forced order -/

def wpAnyRL (P : Program) (md : Region.Mode) (ops : Array Oper) (C : World → Prop) (Rv : FuncId → Array Value → Value → Prop) (n : Nat) (L : Array Bool → Act → Prop) : Nat → Array Bool → Act → Prop
  | 0, listed, a => L listed a
  | f + 1, listed, a =>
    Region.ready md ops listed ≠ [] ∧ ∀ i ∈ Region.ready md ops listed, i < n ∧ rOp P ops C Rv i (wpAnyRL P md ops C Rv n L f (listed.setIfInBounds i true)) a

theorem wpAny_of_headR {n g : Nat} {L : Array Bool → Act → Prop} {Q' : Exit → Act → World → Prop} (hL : ∀ listed a w, C w → L listed a → wpAny P md ops Q' g listed a w) :
    ∀ (f : Nat) (listed : Array Bool) (a : Act) (w : World), C w → wpAnyRL P md ops C Rv n L f listed a → wpAny P md ops Q' (f + g) listed a w
  | 0, listed, a, w, hw, h => by rw [Nat.zero_add]; exact hL _ _ _ hw h
  | f + 1, listed, a, w, hw, h => by
    rw [show f + 1 + g = (f + g) + 1 by omega]
    exact ⟨fun h0 => absurd h0 h.1, fun i hi => wpOp_of_rOp hw (fun a' w' hw' h' => wpAny_of_headR hL f _ a' w' hw' h') (h.2 i hi).2⟩

theorem wpAnyRL_first {n i : Nat} {oi : Oper} {L : Array Bool → Act → Prop} (hC : ∃ w, C w) (hi : ops[i]? = some oi) (hsel : ∀ (j : Nat) (o : Oper) cs b, ops[j]? = some o → o.op ≠ .select cs b)
    (hs : Region.sinkB md ops n = true) (hc : Region.chainB md ops n = true) (hn : n < ops.size) (hin : i < n)
    (hdone : ∀ listed a, L listed a → ∀ j ∈ Region.ready md ops listed, n ≤ j) :
    ∀ (f : Nat) (listed : Array Bool) (a : Act), HeadInv md ops n listed →
      (∀ j oj, ops[j]? = some oj → j ≠ i → listed.getD j true = false → (∀ e ∈ oj.after, Region.binds md e = true → e.on ≠ i) → oi.apart ops oj = true) →
      i ∈ Region.ready md ops listed → safeR P ops C Rv oi a →
      (∀ v, mayR P ops C Rv oi a v → wpAnyRL P md ops C Rv n L f (listed.setIfInBounds i true) (a.put oi.dst v)) → wpAnyRL P md ops C Rv n L (f + 1) listed a := by
  intro f
  induction f with
  | zero =>
    intro listed a inv _ hr hy H
    have hun := (mem_ready.1 hr).1
    refine ⟨fun h => (by rw [h] at hr; cases hr), fun j hj => ?_⟩
    have hjn : j < n := by
      rcases Nat.lt_or_ge j n with h | h
      · exact h
      · exact absurd hj (tail_waits hs hc hn inv _ i rfl hin hun j h)
    refine ⟨hjn, ?_⟩
    by_cases hji : j = i
    · subst hji; exact (rOp_iff hi).2 ⟨hy, H⟩
    · obtain ⟨v, hv⟩ := mayR_some hC hy
      have := hdone _ _ (H v hv) j (ready_mono hj hji)
      omega
  | succ f ih =>
    intro listed a inv hfree hr hy H
    have hun := (mem_ready.1 hr).1
    refine ⟨fun h => (by rw [h] at hr; cases hr), fun j hj => ?_⟩
    have hjn : j < n := by
      rcases Nat.lt_or_ge j n with h | h
      · exact h
      · exact absurd hj (tail_waits hs hc hn inv _ i rfl hin hun j h)
    refine ⟨hjn, ?_⟩
    by_cases hji : j = i
    · subst hji; exact (rOp_iff hi).2 ⟨hy, H⟩
    · have h1 := fun v hv => ((H v hv).2 j (ready_mono hj hji)).2
      obtain ⟨hjun, oj, hoj, hall⟩ := mem_ready.1 hj
      have hnot : ∀ e ∈ oj.after, Region.binds md e = true → e.on ≠ i := fun e he hb heq => by
        have h1 := hall e he hb
        rw [heq, getD_both hun] at h1
        cases h1
      have h2 := rOp_put hoj (hfree j oj hoj hji hjun hnot) hC (fun cs b => hsel i oi cs b hi) (fun cs b => hsel j oj cs b hoj) hy h1
      have hfree' : ∀ k ok, ops[k]? = some ok → k ≠ i → (listed.setIfInBounds j true).getD k true = false →
          (∀ e ∈ ok.after, Region.binds md e = true → e.on ≠ i) → oi.apart ops ok = true := fun k ok hk hki hun hno => by
        refine hfree k ok hk hki ?_ hno
        by_cases hjk : j = k
        · subst hjk; exact hjun
        · rw [getD_set_ne true hjk] at hun; exact hun
      refine rOp_mono (fun a' h3 => ih (listed.setIfInBounds j true) a' (inv.set hj hjn) hfree' (ready_mono hr (Ne.symm hji)) h3.1 ?_) h2
      intro v hv
      rw [Array.setIfInBounds_comm _ _ hji]
      exact h3.2 v hv

theorem wpAnyRL_lex {n g : Nat} {Lq : Act → Prop} (hC : ∃ w, C w) (hsel : Region.noSelect ops = true) (hs : Region.sinkB md ops n = true) (hc : Region.chainB md ops n = true) (hn : n < ops.size) :
    ∀ (l : List Oper) (k : Nat) (listed : Array Bool) (a : Act), (∀ j, j < l.length → l[j]? = ops[k + j]?) → k + l.length = n → HeadInv md ops n listed →
    Region.lexHead md ops g l.length k listed = true → wpRel P ops C Rv Lq l a →
    wpAnyRL P md ops C Rv n (fun listed' a' => Region.seqB md ops g n listed' = true ∧ Lq a') l.length listed a
  | [], k, listed, a, _, hk, _, hB, h => by
    have : k = n := by simpa using hk
    subst this
    exact ⟨by simpa [Region.lexHead] using hB, h⟩
  | o :: l, k, listed, a, hl, hk, inv, hB, h => by
    have h0 : ops[k]? = some o := by simpa using (hl 0 (by simp)).symm
    simp only [List.length_cons, Region.lexHead, Bool.and_eq_true] at hB
    obtain ⟨⟨hr, hf⟩, hB'⟩ := hB
    have hkn : k < n := by simp only [List.length_cons] at hk; omega
    have hr' : k ∈ Region.ready md ops listed := by simpa using hr
    have hst : rOp P ops C Rv k (wpRel P ops C Rv Lq l) a := by unfold rOp; simp only [h0]; exact h
    obtain ⟨hy, hK⟩ := (rOp_iff h0).1 hst
    exact wpAnyRL_first hC h0 (Region.noSelect_spec hsel) hs hc hn hkn (fun listed' a' hL => seqB_ready hL.1) l.length listed a inv (Region.free_spec h0 hf) hr' hy
      (fun v hv => wpAnyRL_lex hC hsel hs hc hn l (k + 1) _ _ (fun j hj => by have := hl (j + 1) (by simp; omega); simpa [Nat.add_assoc, Nat.add_comm 1 j] using this) (by simp only [List.length_cons] at hk; omega) (inv.set hr' hkn) hB' (hK v hv))

theorem wp_region_rel_tail {id : Nat} {Q : Exit → Act → World → Prop} {a : Act} {w : World} {l : List Oper} (n : Nat) (hm : P.follows .mixedOrders = true) (hB : Region.lexTailB .any l.toArray n = true) (hC : C { w with drawn := w.drawn + 1 })
    (h : wpRel P l.toArray C Rv (fun a' => ∀ w', C w' → wpList P l.toArray Q (l.drop n) a' w') (l.take n) a) : (Code.region id l.toArray true).wp P Q a w := by
  simp only [Region.lexTailB, Bool.and_eq_true, decide_eq_true_eq] at hB
  obtain ⟨⟨⟨⟨hsel, hn⟩, hs⟩, hc⟩, hlex⟩ := hB
  have hn' : n < l.length := by simpa using hn
  have htl : (l.take n).length = n := by simp; omega
  have hdl : (l.drop n).length = l.toArray.size - n := by simp
  have inv0 : HeadInv .any l.toArray n (Array.replicate l.toArray.size false) :=
    ⟨by simp, fun j oj _ hl => (by rw [getD_replicate_false] at hl; cases hl), fun t _ ht => getD_in (by simpa using ht) (getD_replicate_false _ _)⟩
  have H := wpAnyRL_lex (md := .any) (g := l.toArray.size - n) ⟨_, hC⟩ hsel hs hc hn (l.take n) 0 _ a (fun j hj => by
    have hj' : j < n := by rw [htl] at hj; exact hj
    simp [hj']) (by simpa using htl) inv0 (by rw [htl]; exact hlex) h
  refine wp_region_any hm ?_
  have := wpAny_of_headR (C := C) (Rv := Rv) (Q' := Q) (g := l.toArray.size - n) (fun listed a' w' hw' hL => by
    have := wpAny_of_seq (md := .any) (Q' := Q) (l.drop n) n listed a' w' (fun j => by simp [List.getElem?_drop]) (by rw [hdl]; exact hL.1) (hL.2 w' hw')
    rwa [hdl] at this) _ _ _ _ hC H
  rw [htl, show n + (l.toArray.size - n) = l.toArray.size by omega] at this
  exact this

/-- the class 'w after some draws' -/
def Dr (w w' : World) : Prop := ∃ n, w' = w.drewN n

/-- the region written out, in that class -/
theorem wp_region_rel_lit (Rv : FuncId → Array Value → Value → Prop) {id : Nat} {Q : Exit → Act → World → Prop} {a : Act} {w : World} {l : List Oper} (hm : P.follows .mixedOrders = true) (hB : Region.lexB .any l.toArray = true)
    (h : wpRel P l.toArray (Dr w) Rv (fun a' => ∀ n, Q .normal a' (w.drewN n)) l a) : (Code.region id l.toArray true).wp P Q a w :=
  wp_region_rel (C := Dr w) (Rv := Rv) hm hB ⟨1, rfl⟩ (by
    have e : (fun a' => ∀ n, Q .normal a' (w.drewN n)) = (fun a' => ∀ w', Dr w w' → Q .normal a' w') := by
      funext a'
      exact propext ⟨fun h w' ⟨n, hn⟩ => hn ▸ h n, fun h n => h _ ⟨n, rfl⟩⟩
    rw [← e]
    exact h)

@[go_sem] theorem Dr_drewN (w : World) (n : Nat) : Dr w (w.drewN n) ↔ True := ⟨fun _ => trivial, fun _ => ⟨n, rfl⟩⟩

@[go_sem] theorem Dr_drewN_1 (w : World) (m n : Nat) : Dr (w.drewN m) (w.drewN (m + n)) ↔ True := ⟨fun _ => trivial, fun _ => ⟨n, by rw [World.drewN_drewN]⟩⟩
@[go_sem] theorem Dr_drewN_2 (w : World) (m n k : Nat) : Dr (w.drewN m) (w.drewN (m + n + k)) ↔ True := ⟨fun _ => trivial, fun _ => ⟨n + k, by rw [World.drewN_drewN, Nat.add_assoc]⟩⟩
@[go_sem] theorem Dr_drewN_3 (w : World) (m n k j : Nat) : Dr (w.drewN m) (w.drewN (m + n + k + j)) ↔ True := ⟨fun _ => trivial, fun _ => ⟨n + k + j, by rw [World.drewN_drewN]; congr 1; omega⟩⟩
@[go_sem] theorem Dr_drewN_4 (w : World) (m n k : Nat) : Dr (w.drewN m) (w.drewN (m + (n + k))) ↔ True := ⟨fun _ => trivial, fun _ => ⟨n + k, by rw [World.drewN_drewN]⟩⟩

/-- one operation: a world of the class written out -/
@[go_sem] theorem operRel_Dr {o : Oper} {a : Act} {w : World} {next : Act → Prop} :
    operRel P o a (Dr w) Rv next ↔ ∀ n, relUpon P (Dr w) Rv (fun v => next (a.put o.dst v)) ((execOp a.eval o).run P (w.drewN n)) :=
  ⟨fun h n => h _ ⟨n, rfl⟩, fun h _ ⟨n, hn⟩ => hn ▸ h n⟩

/-- the region written out, its last operations in one forced order -/
theorem wp_region_rel_lit_tail (Rv : FuncId → Array Value → Value → Prop) (n : Nat) {id : Nat} {Q : Exit → Act → World → Prop} {a : Act} {w : World} {l : List Oper} (hm : P.follows .mixedOrders = true) (hB : Region.lexTailB .any l.toArray n = true)
    (h : wpRel P l.toArray (Dr w) Rv (fun a' => ∀ k, wpList P l.toArray Q (l.drop n) a' (w.drewN k)) (l.take n) a) : (Code.region id l.toArray true).wp P Q a w :=
  wp_region_rel_tail (C := Dr w) (Rv := Rv) n hm hB ⟨1, rfl⟩ (by
    have e : (fun a' => ∀ k, wpList P l.toArray Q (l.drop n) a' (w.drewN k)) = (fun a' => ∀ w', Dr w w' → wpList P l.toArray Q (l.drop n) a' w') := by
      funext a'
      exact propext ⟨fun h w' ⟨n, hn⟩ => hn ▸ h n, fun h n => h _ ⟨n, rfl⟩⟩
    rw [← e]
    exact h)

attribute [go_sem] relUpon

/-- a callee's contract, in such a region -/
theorem calls_rel {f : FuncId} {args : Array Value} {w : World} {m q : Nat} {S : Value → Prop}
    (h : Calls P f args (w.drewN (m + q)) fun e w' => (∃ v, e = .returned v ∧ S v) ∧ ∃ n, w' = (w.drewN (m + q)).drewN n) : Calls P f args (w.drewN (m + q)) fun e w'' => ∃ v, e = .returned v ∧ S v ∧ Dr (w.drewN m) w'' :=
  h.mono fun _ _ ⟨⟨v, he, hv⟩, n, hn⟩ => ⟨v, he, hv, by rw [hn]; exact ⟨q + n, by rw [World.drewN_drewN, World.drewN_drewN, Nat.add_assoc]⟩⟩
theorem calls_rel0 {f : FuncId} {args : Array Value} {w : World} {q : Nat} {S : Value → Prop}
    (h : Calls P f args (w.drewN q) fun e w' => (∃ v, e = .returned v ∧ S v) ∧ ∃ n, w' = (w.drewN q).drewN n) : Calls P f args (w.drewN q) fun e w'' => ∃ v, e = .returned v ∧ S v ∧ Dr w w'' :=
  h.mono fun _ _ ⟨⟨v, he, hv⟩, n, hn⟩ => ⟨v, he, hv, by rw [hn]; exact ⟨q + n, by rw [World.drewN_drewN]⟩⟩
end
end Go.Proofs.Ytopeidmafalklaa


namespace Go.Proofs.Ytopeidmafalklaa
open Go.RowKit

def marks (f : Int → Value) (k : Int) (n : Nat) : List Value := (List.range n).map fun i : Nat => f (k + (i : Int))
theorem marks_length (f : Int → Value) (k : Int) (n : Nat) : (marks f k n).length = n := by simp [marks]
theorem marks_get (f : Int → Value) (k : Int) (n i : Nat) (h : i < n) : (marks f k n)[i]? = some (f (k + (i : Int))) := by simp [marks, h]
theorem marks_snoc (f : Int → Value) (k : Int) (n : Nat) : marks f k (n + 1) = marks f k n ++ [f (k + (n : Int))] := by simp [marks, List.range_succ]
theorem marks_set (f : Int → Value) (k : Int) (xs : List Value) (n i : Nat) (hl : xs.length = n) (h : i < n) : (marks f k i ++ xs.drop i).set i (f (k + (i : Int))) = marks f k (i + 1) ++ xs.drop (i + 1) := by
  rw [marks_snoc, List.set_append_right _ _ (by rw [marks_length]; exact Nat.le_refl _), List.append_assoc]
  congr 1
  rw [marks_length, Nat.sub_self, List.drop_eq_getElem_cons (by omega)]
  rfl

theorem only_setCell {a w : World} {g : Nat} (h : a.grownBy w (some g)) {p : Addr} (hp : p.block = g) (u : Value) : a.grownBy (w.setCell p u) (some g) :=
  ⟨h.os, h.tape, h.output, by simpa [World.setCell] using h.size, fun i hi hne => (Below.heap_setCell w p u i (by
    rintro rfl
    exact hne (by rw [hp]))).trans (h.block i hi hne)⟩


theorem infoInt64 : (Try.prog.info? 2).map (fun i => (i.zero, i.size, i.bytes)) = some (some (.int .i64 0), 1, 8) := by kernel_rfl


theorem infoBool : (Try.prog.info? 4).map (fun i => (i.zero, i.size, i.bytes)) = some (some (.bool false), 1, 1) := by kernel_rfl


theorem infoFloat32 : (Try.prog.info? 46).map (fun i => (i.zero, i.size, i.bytes)) = some (some (.float .f32 0), 1, 4) := by kernel_rfl


set_option maxHeartbeats 400000 in
theorem toInt64S_c (w : World) (A : Option Addr) (n cap : Nat) (xs : List Int) (hl : xs.length = n) (hn : n ≤ 1048576) (hx : Sl w w.heap.size A (xs.map (Value.int .i64))) :
    Calls Try.prog 41 #[.slice A n cap] w fun e w' => ∃ v, e = .returned v ∧ Ow w' w.heap.size 2 v (xs.map (Value.int .i64)) ∧ Below w.heap.size w w' := by
  obtain ⟨i0, hi, hz0, hz1, hz2⟩ := info_parts infoInt64
  obtain ⟨w1, hmk, hown, hgr⟩ := run_make_full (P := Try.prog) w w.heap.size 22 2 i0 (.int .i64 0) 1 Try.underlying22 hi hz0 hz1 .i64 .i64 n (by rw [hz2]; omega) (by unfold maxLen; omega) (Nat.le_refl _)
  have hb1 : Below w.heap.size w w1 := (Below.refl _ _).grown hgr (Nat.le_refl _) (by simp)
  go_enter Try.func41, Try.ntmps41
  go_wp2
  clear hgr hmk
  go_loopw [4] (fun i wr => ∃ k : Nat, k ≤ n ∧ i = .int .i64 k ∧ wr.ownsRow w.heap.size 2 1 (.slice (some ⟨w.heap.size, 0, none⟩) n n) n ((xs.take k ++ List.replicate (n-k) 0).map (Value.int .i64)) ∧ Below w.heap.size w wr) (fun i _ => n - (intOf i).toNat)
  case atStart =>
    refine ⟨0, Nat.zero_le _, rfl, ?_, hb1⟩
    simpa [Value.cells, toList_madeCells_one] using hown
  case round =>
    clear hown hb1
    obtain ⟨k, hk, rfl, ho, hb⟩ := hrel
    by_cases hlt : k < n
    · obtain ⟨b, off, rfl, hbb, hc1⟩ := (hx.below hb).get k (by omega)
      have hs := ho.stored k ((Value.int .i64) (xs[k]'(by omega)))
      have hc2 := ho.cellAt k (by omega)
      have hf := ho.frozenAt k
      go_wp2
      go_roundw
      case rel =>
        refine ⟨k+1, by omega, by go_num, ?_, hb.setCell (p := ⟨w.heap.size, k, none⟩) (Nat.le_refl _) _⟩
        have h1 := hs.1
        rw [← List.map_set, fill_set xs 0 n k hl hlt] at h1
        exact h1
      case measure => simp [intOf]; omega
    · have : k = n := by omega
      subst this
      go_wp2
      go_ret
      refine ⟨_, rfl, ?_, hb⟩
      unfold Ow
      simpa [take_all hl, hl] using ho


set_option maxHeartbeats 400000 in
theorem eqInt64S_t (w : World) (A B : Option Addr) (n cap cap' b1 b2 : Nat) (xs : List Int) (hl : xs.length = n) (hn : n ≤ 1099511627776) (hx : Sl w b1 A (xs.map (Value.int .i64))) (hy : Sl w b2 B (xs.map (Value.int .i64))) :
    Calls Try.prog 53 #[.slice A n cap, .slice B n cap'] w fun e w' => e = .returned (.bool true) ∧ ∃ n, w' = w.drewN n := by
  go_enter Try.func53, Try.ntmps53
  go_wp2
  go_loopw [5] (fun i wr => ∃ k m : Nat, k ≤ n ∧ i = .int .i64 k ∧ wr = w.drewN m) (fun i _ => n - (intOf i).toNat)
  case atStart => exact ⟨0, 0, Nat.zero_le _, rfl, rfl⟩
  case round =>
    obtain ⟨k, m, hk, rfl, rfl⟩ := hrel
    by_cases hlt : k < n
    · obtain ⟨b, off, rfl, hbb, hc1⟩ := hx.get k (by omega)
      obtain ⟨b', off', rfl, hbb', hc2⟩ := hy.get k (by omega)
      clear hx hy
      go_wp2
      go_quiet (fail)
      go_wp2
      go_roundw
      case rel => exact ⟨k+1, _, by omega, by go_num, rfl⟩
      case measure => simp [intOf]; omega
    · have : k = n := by omega
      subst this
      go_wp2
      go_ret
      exact ⟨rfl, _, rfl⟩


set_option maxHeartbeats 400000 in
theorem markInt64S_c (w : World) (base : Nat) (A : Option Addr) (n cap : Nat) (xs : List Value) (hn : n ≤ 1099511627776) (k : Int) (h0 : 0 ≤ k) (hk : k ≤ 1099511627776) (ho : w.ownsRow base 2 1 (.slice A n cap) n xs) :
    Calls Try.prog 54 #[.slice A n cap, .int .i64 k] w fun e w' => e = .returned (.int .i64 (k + n)) ∧ w'.ownsRow base 2 1 (.slice A n cap) n (marks (fun q => .int .i64 q) k n) ∧ w.grownBy w' (Value.slice A n cap).ownBlock := by
  have hl : xs.length = n := by simpa using ho.1
  go_enter Try.func54, Try.ntmps54
  go_wp2
  go_loopw [1, 5] (fun q i wr => ∃ j : Nat, j ≤ n ∧ i = .int .i64 j ∧ q = .int .i64 (k + j) ∧ wr.ownsRow base 2 1 (.slice A n cap) n (marks (fun q => .int .i64 q) k j ++ xs.drop j) ∧ w.grownBy wr (Value.slice A n cap).ownBlock) (fun _ i _ => n - (intOf i).toNat)
  case atStart => exact ⟨0, Nat.zero_le _, rfl, by simp, by simpa [marks] using ho, World.grownBy.refl _ _⟩
  case round =>
    clear ho
    obtain ⟨j, hj, rfl, rfl, ho, hg⟩ := hrel
    by_cases hlt : j < n
    · obtain ⟨g, cap', hv, hbg, hgs⟩ := ho.form (by omega)
      injection hv with hv
      subst hv
      have hc := ho.cellAt j (by omega)
      have hf := ho.frozenAt j
      have hs := ho.stored j ((fun q => .int .i64 q) (k + (j : Int)))
      have hcell : ∃ u, wr.cell? ⟨g, j, none⟩ = some u := by
        rw [hc, List.getElem?_append_right (by rw [marks_length]; omega), marks_length, Nat.sub_self, List.getElem?_drop]
        exact ⟨_, List.getElem?_eq_getElem (by omega)⟩
      obtain ⟨u, hcu⟩ := hcell
      have HS := Lib.hid hs
      clear hc hs ho
      go_wp2
      try go_quiet (fail)
      go_wp2
      go_roundw
      case rel =>
        refine ⟨j + 1, by omega, by go_num, by go_num, ?_, only_setCell (p := ⟨g, j, none⟩) hg rfl _⟩
        have h1 := HS.out.1
        rw [marks_set _ _ _ n j hl hlt] at h1
        exact h1
      case measure => simp [intOf]; omega
    · have : j = n := by omega
      subst this
      go_wp2
      go_ret
      exact ⟨rfl, by simpa [List.drop_of_length_le (Nat.le_of_eq hl)] using ho, hg⟩







set_option maxHeartbeats 400000 in
theorem toFloat32S_c (w : World) (A : Option Addr) (n cap : Nat) (xs : List Nat) (hl : xs.length = n) (hn : n ≤ 1048576) (hx : Sl w w.heap.size A (xs.map (Value.float .f32))) :
    Calls Try.prog 8 #[.slice A n cap] w fun e w' => ∃ v, e = .returned v ∧ Ow w' w.heap.size 46 v (xs.map (Value.float .f32)) ∧ Below w.heap.size w w' := by
  obtain ⟨i0, hi, hz0, hz1, hz2⟩ := info_parts infoFloat32
  obtain ⟨w1, hmk, hown, hgr⟩ := run_make_full (P := Try.prog) w w.heap.size 25 46 i0 (.float .f32 0) 1 Try.underlying25 hi hz0 hz1 .i64 .i64 n (by rw [hz2]; omega) (by unfold maxLen; omega) (Nat.le_refl _)
  have hb1 : Below w.heap.size w w1 := (Below.refl _ _).grown hgr (Nat.le_refl _) (by simp)
  go_enter Try.func8, Try.ntmps8
  go_wp2
  clear hgr hmk
  go_loopw [4] (fun i wr => ∃ k : Nat, k ≤ n ∧ i = .int .i64 k ∧ wr.ownsRow w.heap.size 46 1 (.slice (some ⟨w.heap.size, 0, none⟩) n n) n ((xs.take k ++ List.replicate (n-k) 0).map (Value.float .f32)) ∧ Below w.heap.size w wr) (fun i _ => n - (intOf i).toNat)
  case atStart =>
    refine ⟨0, Nat.zero_le _, rfl, ?_, hb1⟩
    simpa [Value.cells, toList_madeCells_one] using hown
  case round =>
    clear hown hb1
    obtain ⟨k, hk, rfl, ho, hb⟩ := hrel
    by_cases hlt : k < n
    · obtain ⟨b, off, rfl, hbb, hc1⟩ := (hx.below hb).get k (by omega)
      have hs := ho.stored k ((Value.float .f32) (xs[k]'(by omega)))
      have hc2 := ho.cellAt k (by omega)
      have hf := ho.frozenAt k
      go_wp2
      go_roundw
      case rel =>
        refine ⟨k+1, by omega, by go_num, ?_, hb.setCell (p := ⟨w.heap.size, k, none⟩) (Nat.le_refl _) _⟩
        have h1 := hs.1
        rw [← List.map_set, fill_set xs 0 n k hl hlt] at h1
        exact h1
      case measure => simp [intOf]; omega
    · have : k = n := by omega
      subst this
      go_wp2
      go_ret
      refine ⟨_, rfl, ?_, hb⟩
      unfold Ow
      simpa [take_all hl, hl] using ho


theorem one64 : floatBits .quo .f64 4607182418800017408 0 = some 9218868437227405312 := by decide +kernel

set_option maxHeartbeats 400000 in
/-- numbers that are one but for the bits of a NaN are the same -/
theorem sameFloat_t (w : World) (x y : Nat) (h : fl .f64 x = fl .f64 y) :
    Calls Try.prog 52 #[.float .f64 x, .float .f64 y] w fun e w' => e = .returned (.bool true) ∧ ∃ n, w' = w.drewN n := by
  by_cases hn : nanB .f64 x = true
  · have hm : nanB .f64 y = true := by
      rcases hy : nanB .f64 y with _ | _
      · rw [fl_nan hn, fl_nn hy] at h; cases h
      · rfl
    have hxx := order_nan .f64 x x hn
    have hyy := order_nan .f64 y y hm
    clear h
    go_enter Try.func52, Try.ntmps52
    go_wp2
    go_ret
    exact ⟨rfl, 0, rfl⟩
  · have hn' : nanB .f64 x = false := by simpa using hn
    have hxy : x = y := by
      rcases hy : nanB .f64 y with _ | _
      · rw [fl_nn hn', fl_nn hy] at h; injection h
      · rw [fl_nn hn', fl_nan hy] at h; cases h
    subst hxy
    have hxx := order_self .f64 x hn'
    by_cases hz : (FloatKind.f64.format.order x 0 == some Ordering.eq) = true
    · go_enter Try.func52, Try.ntmps52
      go_wp2
      go_ret
      refine ⟨ret_bool ?_, _, rfl⟩
      show ((FloatKind.f64.format.order _ _ == _) == (FloatKind.f64.format.order _ _ == _)) = true
      rw [order_fl, order_fl, fl_fres, fl_fres]
      simp
    · have hz' : (FloatKind.f64.format.order x 0 == some Ordering.eq) = false := by simpa using hz
      clear hz
      go_enter Try.func52, Try.ntmps52
      go_wp2
      go_ret
      exact ⟨rfl, 0, rfl⟩


set_option maxRecDepth 100000 in
set_option maxHeartbeats 400000 in
theorem eqFloat32S_t (w : World) (A B : Option Addr) (n cap cap' b1 b2 : Nat) (xs ys : List Nat) (hl : xs.length = n) (hn : n ≤ 1099511627776) (he : xs.map (fl .f32) = ys.map (fl .f32))
    (hx : Sl w b1 A (xs.map (Value.float .f32))) (hy : Sl w b2 B (ys.map (Value.float .f32))) :
    Calls Try.prog 10 #[.slice A n cap, .slice B n cap'] w fun e w' => e = .returned (.bool true) ∧ ∃ n, w' = w.drewN n := by
  have hl2 : ys.length = n := by have := congrArg List.length he; simp at this; omega
  go_enter Try.func10, Try.ntmps10
  go_wp2
  go_loopw [5] (fun i wr => ∃ k m : Nat, k ≤ n ∧ i = .int .i64 k ∧ wr = w.drewN m) (fun i _ => n - (intOf i).toNat)
  case atStart => exact ⟨0, 0, Nat.zero_le _, rfl, rfl⟩
  case round =>
    obtain ⟨k, m, hk, rfl, rfl⟩ := hrel
    by_cases hlt : k < n
    · obtain ⟨b, off, rfl, hbb, hc1⟩ := hx.get k (by omega)
      obtain ⟨b', off', rfl, hbb', hc2⟩ := hy.get k (by omega)
      have hf : fl .f32 (xs[k]'(by omega)) = fl .f32 (ys[k]'(by omega)) := by
        have := congrArg (fun l : List (Option Nat) => l[k]?) he
        simpa [hl, hl2, hlt] using this
      have HF := Lib.hid hf
      clear hx hy he hf
      go_wp2_with fail
      refine wp_region_rel_lit (fun f args v => v = .bool true) (by kernel_rfl) (by kernel_rfl) ?_
      iterate 10 (refine wpRel_step (fun K hK => ?_); go_simp; (try intro n1); refine hK _ ?_; clear hK K)
      refine wpRel_step (fun K hK => ?_)
      go_simp
      intro n2
      refine ⟨calls_rel ((sameFloat_t _ _ _ (by rw [fl_widen, fl_widen, HF.out])).mono fun e w' ⟨he, hw⟩ => ⟨⟨_, he, rfl⟩, hw⟩), hK _ ?_⟩
      clear hK K
      iterate 1 (refine wpRel_step (fun K hK => ?_); go_simp; (try intro n1); refine hK _ ?_; clear hK K)
      refine wpRel_nil ?_
      intro nq
      go_wp2
      go_roundw
      case rel => exact ⟨k+1, _, by omega, by go_num, rfl⟩
      case measure => simp [intOf]; omega
    · have : k = n := by omega
      subst this
      go_wp2
      go_ret
      exact ⟨rfl, _, rfl⟩


set_option maxHeartbeats 400000 in
theorem markFloat32S_c (w : World) (base : Nat) (A : Option Addr) (n cap : Nat) (xs : List Value) (hn : n ≤ 1099511627776) (k : Int) (h0 : 0 ≤ k) (hk : k ≤ 1099511627776) (ho : w.ownsRow base 46 1 (.slice A n cap) n xs) :
    Calls Try.prog 13 #[.slice A n cap, .int .i64 k] w fun e w' => e = .returned (.int .i64 (k + n)) ∧ w'.ownsRow base 46 1 (.slice A n cap) n (marks (fun q => .float .f32 (floatOfInt .f32 q)) k n) ∧ w.grownBy w' (Value.slice A n cap).ownBlock := by
  have hl : xs.length = n := by simpa using ho.1
  go_enter Try.func13, Try.ntmps13
  go_wp2
  go_loopw [1, 5] (fun q i wr => ∃ j : Nat, j ≤ n ∧ i = .int .i64 j ∧ q = .int .i64 (k + j) ∧ wr.ownsRow base 46 1 (.slice A n cap) n (marks (fun q => .float .f32 (floatOfInt .f32 q)) k j ++ xs.drop j) ∧ w.grownBy wr (Value.slice A n cap).ownBlock) (fun _ i _ => n - (intOf i).toNat)
  case atStart => exact ⟨0, Nat.zero_le _, rfl, by simp, by simpa [marks] using ho, World.grownBy.refl _ _⟩
  case round =>
    clear ho
    obtain ⟨j, hj, rfl, rfl, ho, hg⟩ := hrel
    by_cases hlt : j < n
    · obtain ⟨g, cap', hv, hbg, hgs⟩ := ho.form (by omega)
      injection hv with hv
      subst hv
      have hc := ho.cellAt j (by omega)
      have hf := ho.frozenAt j
      have hs := ho.stored j ((fun q => .float .f32 (floatOfInt .f32 q)) (k + (j : Int)))
      have hcell : ∃ u, wr.cell? ⟨g, j, none⟩ = some u := by
        rw [hc, List.getElem?_append_right (by rw [marks_length]; omega), marks_length, Nat.sub_self, List.getElem?_drop]
        exact ⟨_, List.getElem?_eq_getElem (by omega)⟩
      obtain ⟨u, hcu⟩ := hcell
      have HS := Lib.hid hs
      clear hc hs ho
      go_wp2
      try go_quiet (fail)
      go_wp2
      go_roundw
      case rel =>
        refine ⟨j + 1, by omega, by go_num, by go_num, ?_, only_setCell (p := ⟨g, j, none⟩) hg rfl _⟩
        have h1 := HS.out.1
        rw [marks_set _ _ _ n j hl hlt] at h1
        exact h1
      case measure => simp [intOf]; omega
    · have : j = n := by omega
      subst this
      go_wp2
      go_ret
      exact ⟨rfl, by simpa [List.drop_of_length_le (Nat.le_of_eq hl)] using ho, hg⟩


set_option maxHeartbeats 400000 in
theorem heldFloat32S_c (w : World) (b1 : Nat) (A : Option Addr) (n cap : Nat) (hn : n ≤ 1099511627776) (k : Int) (h0 : 0 ≤ k) (hk : k ≤ 1099511627776) (hx : Sl w b1 A (marks (fun q => .float .f32 (floatOfInt .f32 q)) k n)) :
    Calls Try.prog 14 #[.slice A n cap, .int .i64 k] w fun e w' => e = .returned (.int .i64 (k + n)) ∧ ∃ m, w' = w.drewN m := by
  go_enter Try.func14, Try.ntmps14
  go_wp2
  go_loopw [1, 5] (fun q i wr => ∃ j m : Nat, j ≤ n ∧ i = .int .i64 j ∧ q = .int .i64 (k + j) ∧ wr = w.drewN m) (fun _ i _ => n - (intOf i).toNat)
  case atStart => exact ⟨0, 0, Nat.zero_le _, rfl, by simp, rfl⟩
  case round =>
    obtain ⟨j, m, hj, rfl, rfl, rfl⟩ := hrel
    by_cases hlt : j < n
    · obtain ⟨b, off, rfl, hbb, hc⟩ := hx.at_ (k := j) (by rw [marks_length]; exact hlt)
      have hc1 := hc j _ (marks_get _ k n j hlt)
      clear hc hx
      have ho := order_self .f32 (floatOfInt .f32 (k + (j : Int))) (nanB_write .f32 (.number (k + (j : Int) < 0) (k + (j : Int)).natAbs 0) rfl)
      go_wp2
      try go_quiet (fail)
      go_wp2
      go_roundw
      case rel => exact ⟨j + 1, _, by omega, by go_num, by go_num, rfl⟩
      case measure => simp [intOf]; omega
    · have : j = n := by omega
      subst this
      go_wp2
      go_ret
      exact ⟨rfl, _, rfl⟩

end Go.Proofs.Ytopeidmafalklaa


namespace Go.Proofs.Ytopeidmafalklaa
open Go.ChangeShapes Go.WideShapes Go.ChangeAt Go.RowKit

theorem Try_own : ownKnob Try.prog.godebug = none := by kernel_rfl
theorem Try_laid : laidOutB Try.prog = true := by kernel_rfl

section
variable {H : Type} {enc : TypeId × Value → H} {P : Program}

theorem post_of_below {f : Func} {s : ChangeSpec} {apart fresh handsOn again : Bool} {W W' : World} {args : Array Value} {v : Value} {ds gs : List (DataW H)} {before pa pv : List MemPlace}
    (hW : DataW.Whole enc P f.params.toList s.vars apart W args.toList ds gs before)
    (hres : ∀ (b : Nat) (sp : Nat → Bool) (hd : Bool), DataW.TrodAll enc P W' b sp hd f.resultTypes.toList (v.resultList f.resultTypes.size) (s.fn H (ds ++ gs)).results [])
    (hargs : ∀ sp : Nat → Bool, (∀ p ∈ before, sp p.block = true) → DataW.TrodAll enc P W' 0 sp true f.params.toList args.toList (s.fn H (ds ++ gs)).args pa)
    (hvars : ∀ sp : Nat → Bool, (∀ p ∈ before, sp p.block = true) → DataW.TrodVars enc P W' sp s.vars (s.fn H (ds ++ gs)).vars pv)
    (hps : before = pa ++ pv) (hb : Below W.heap.size W W')
    (hok : ∀ (j : Nat) (t : TypeId) (r : Value), f.resultTypes[j]? = some t → (v.resultList f.resultTypes.size)[j]? = some r → Value.okWide P W' .any 0 t r) :
    s.post enc P f apart fresh handsOn again W args v W' := by
  have hlt : ∀ p ∈ before, p.block < W.heap.size := fun p hp => hW.lt p hp
  have hold : ∀ p ∈ before, (fun b => decide (b < W.heap.size)) p.block = true := fun p hp => by simpa using hlt p hp
  refine ⟨ds, gs, before, [], pa, pv, hW, hres _ _ _, hargs _ hold, hvars _ hold, World.keptBut_mono (fun p hp => ⟨hp, ?_⟩) (hb.frame (· ∈ before)), fun _ => ?_⟩
  · rw [hps, List.mem_append] at hp
    exact Or.inr hp
  · obtain ⟨_, _, _, _, _, hz, hn⟩ := hW
    refine ⟨hok, _, _, ([] ++ pa) ++ pv, ⟨[] ++ pa, pv, trodAll_append (hargs _ (fun _ _ => rfl)) (hres _ _ _), hvars _ (fun _ _ => rfl), rfl, ?_, ?_⟩, ?_⟩
    · intro b off hp
      have hin : MemPlace.cell b off ∈ before := by rw [hps]; simpa using hp
      rw [hb.frozen (hlt _ hin)]
      exact hz b off hin
    · intro ha
      have := hn ha
      rw [hps] at this
      simpa using this
    · intro p hp _
      rw [hps]
      simpa using hp

theorem trodAll_stays (hl : laidOutB P = true) {W W' : World} {sp' : Nat → Bool} : ∀ (ts : List TypeId) (vs : List Value) (ds : List (DataW H)) (ps : List MemPlace),
    ts.all (fun t => P.readableRec t && decide (t < P.types.size)) = true → DataW.TrodAll enc P W 0 (fun _ => true) true ts vs ds ps → (∀ p ∈ ps, W.sameAt W' p) → (∀ p ∈ ps, sp' p.block = true) → DataW.TrodAll enc P W' 0 sp' true ts vs ds ps
  | [], vs, ds, ps, _, h, _, _ => by
    obtain ⟨rfl, rfl, rfl⟩ := trodAll_nil h
    exact trodAll_mk0
  | t :: ts, vs, ds, ps, hr, h, hs, hp => by
    simp only [List.all_cons, Bool.and_eq_true, decide_eq_true_eq] at hr
    obtain ⟨v, vs', d, ds', p, q, rfl, rfl, rfl, h0, r0⟩ := trodAll_cons h
    exact trodAll_cons_mk (WideElems.Trod_stays hl hr.1.1 hr.1.2 h0 (fun x hx => hs x (by simp [hx])) (fun x hx => hp x (by simp [hx])))
      (trodAll_stays hl ts vs' ds' q hr.2 r0 (fun x hx => hs x (by simp [hx])) (fun x hx => hp x (by simp [hx])))

/-- THE LAW's LAST STEP: from 'it returns true, and what was there is as it was' to the row's own words -/
theorem law_end (hl : laidOutB P = true) {f : Func} {fid : FuncId} {s : ChangeSpec} {tb : TypeId} {W : World} {args : Array Value} {ds : List (DataW H)} {before : List MemPlace}
    (hr : f.params.toList.all (fun t => P.readableRec t && decide (t < P.types.size)) = true) (hrt : f.resultTypes = #[tb]) (htb : P.underlying tb = some .bool) (hvars : s.vars = [])
    (hfn : s.fn H (ds ++ []) = { results := [.lit (.bool true)], args := ds }) (hW : DataW.Whole enc P f.params.toList s.vars false W args.toList ds [] before)
    (hc : Calls P fid args W fun e W' => e = .returned (.bool true) ∧ Below W.heap.size W W') :
    Calls P fid args W fun e W' => ∃ v, e = .returned v ∧ s.post enc P f false true false false W args v W' := by
  refine hc.mono fun e W' ⟨he, hb⟩ => ⟨_, he, ?_⟩
  have hlt : ∀ p ∈ before, p.block < W.heap.size := fun p hp => hW.lt p hp
  have hW0 := hW
  obtain ⟨pa, pv, hA, hV, hps, _, _⟩ := hW0
  have hpv : pv = [] := by
    rw [hvars] at hV
    exact (trodVars_none hV).2
  refine post_of_below (pa := pa) (pv := []) hW ?_ ?_ ?_ (by rw [hps, hpv]) hb ?_
  · intro b sp hd
    rw [hfn, hrt]
    exact trodAll_mk1 (shut_bool htb true)
  · intro sp hsp
    rw [hfn]
    have hin : ∀ p ∈ pa, p ∈ before := fun p hp => by rw [hps]; simp [hp]
    exact trodAll_stays hl _ _ _ _ hr hA (fun p hp => hb.same (hlt p (hin p hp))) (fun p hp => hsp p (hin p hp))
  · intro sp _
    rw [hfn, hvars]
    exact rfl
  · rw [hrt]
    exact ok_one (f := { f with resultTypes := #[tb] }) (by rfl) rfl (okWide_bool_mk htb true)

/-- a slice of one-cell elements that are all of one make, opened -/
theorem open_sl {α : Type} [Inhabited α] (f : α → Value) (good : α → Prop) {t e : TypeId} (ht : P.underlying t = some (.slice e)) (hc : P.cellsOf e = 1) {w : World}
    (elem : ∀ (n : Nat) (v : Value) (x : DataW H × List MemPlace), DataW.trod enc P w 0 (fun _ => true) true n e [v] = some x → ∃ a, v = f a ∧ good a)
    {r : Reach} {b0 : Nat} {v : Value} {d : DataW H} {p : List MemPlace} (hval : Value.okWide P w r b0 t v) (h : DataW.Trod enc P w 0 (fun _ => true) true t v d p) :
    ∃ (A : Option Addr) (n cap : Nat) (xs : List α), v = .slice A n cap ∧ xs.length = n ∧ n ≤ cap ∧ cap ≤ maxLen ∧ (∀ a ∈ xs, good a) ∧ Sl w w.heap.size A (xs.map f) := by
  obtain ⟨a0, len, cap, rfl⟩ := okWide_slice ht hval
  obtain ⟨fuel, hf⟩ := h
  rcases Deep.open_slice1 ht hc hf with ⟨hcs, _⟩ | ⟨a, len', cap', m, n, V, D, Pl, hcs, _, hl, hm, hmm, _, hx⟩
  · simp [Value.cells] at hcs
    obtain ⟨rfl, rfl, rfl⟩ := hcs
    exact ⟨none, 0, 0, [], rfl, rfl, Nat.le_refl _, by simp [maxLen], by simp, .inl rfl⟩
  · simp [Value.cells] at hcs
    obtain ⟨rfl, rfl, rfl⟩ := hcs
    simp only [if_true] at hmm
    obtain ⟨g, hg⟩ := Deep.choose_lt (n := len) (p := fun i a => V i = f a ∧ good a) (fun i hi => elem n _ _ (hx i (by omega)).2)
    refine ⟨some a, len, cap, (List.range len).map g, rfl, by simp, hl, hm, ?_, ?_⟩
    · intro y hy
      obtain ⟨i, hi, rfl⟩ := List.mem_map.1 hy
      exact (hg i (by simpa using hi)).2
    · by_cases h0 : len = 0
      · subst h0; exact .inl rfl
      · obtain ⟨b, off, spot⟩ := a
        have hc0 := (hx 0 (by omega)).1
        have hspot : spot = none := by simpa [Addr.add] using World.cell?_spot hc0
        subst hspot
        have hlt := World.block_lt_of_cell? w _ hc0
        refine .inr ⟨b, off, rfl, by rwa [add_plain] at hlt, fun j u hu => ?_⟩
        have hj : j < len := by simpa using (List.getElem?_eq_some_iff.1 hu).1
        have h1 := (hx j (by omega)).1
        rw [add_plain] at h1
        rw [h1, (hg j hj).1, ← hu]
        simp [hj]

/-- a slice of one-cell elements that are all of one make, opened -/
theorem open_sl_trod {α : Type} [Inhabited α] (f : α → Value) (good : α → Prop) {t e : TypeId} (ht : P.underlying t = some (.slice e)) (hc : P.cellsOf e = 1) {w : World}
    (elem : ∀ (n : Nat) (v : Value) (x : DataW H × List MemPlace), DataW.trod enc P w 0 (fun _ => true) true n e [v] = some x → ∃ a, v = f a ∧ good a)
    {v : Value} {fuel : Nat} {y : DataW H × List MemPlace} (hf : DataW.trod enc P w 0 (fun _ => true) true fuel t [v] = some y) :
    ∃ (A : Option Addr) (n cap : Nat) (xs : List α), v = .slice A n cap ∧ xs.length = n ∧ n ≤ cap ∧ cap ≤ maxLen ∧ (∀ a ∈ xs, good a) ∧ Sl w w.heap.size A (xs.map f) := by
  obtain ⟨a0, len, cap, hv⟩ := Joins.slice_form ht hf
  obtain rfl : v = .slice a0 len cap := by simpa using hv
  rcases Deep.open_slice1 ht hc hf with ⟨hcs, _⟩ | ⟨a, len', cap', m, n, V, D, Pl, hcs, _, hl, hm, hmm, _, hx⟩
  · simp at hcs
    obtain ⟨rfl, rfl, rfl⟩ := hcs
    exact ⟨none, 0, 0, [], rfl, rfl, Nat.le_refl _, by simp [maxLen], by simp, .inl rfl⟩
  · simp at hcs
    obtain ⟨rfl, rfl, rfl⟩ := hcs
    simp only [if_true] at hmm
    obtain ⟨g, hg⟩ := Deep.choose_lt (n := len) (p := fun i a => V i = f a ∧ good a) (fun i hi => elem n _ _ (hx i (by omega)).2)
    refine ⟨some a, len, cap, (List.range len).map g, rfl, by simp, hl, hm, ?_, ?_⟩
    · intro y hy
      obtain ⟨i, hi, rfl⟩ := List.mem_map.1 hy
      exact (hg i (by simpa using hi)).2
    · by_cases h0 : len = 0
      · subst h0; exact .inl rfl
      · obtain ⟨b, off, spot⟩ := a
        have hc0 := (hx 0 (by omega)).1
        have hspot : spot = none := by simpa [Addr.add] using World.cell?_spot hc0
        subst hspot
        have hlt := World.block_lt_of_cell? w _ hc0
        refine .inr ⟨b, off, rfl, by rwa [add_plain] at hlt, fun j u hu => ?_⟩
        have hj : j < len := by simpa using (List.getElem?_eq_some_iff.1 hu).1
        have h1 := (hx j (by omega)).1
        rw [add_plain] at h1
        rw [h1, (hg j hj).1, ← hu]
        simp [hj]

theorem elem_int {w : World} {e : TypeId} {k : IntKind} (he : P.underlying e = some (.int k)) : ∀ (n : Nat) (v : Value) (x : DataW H × List MemPlace), DataW.trod enc P w 0 (fun _ => true) true n e [v] = some x → ∃ a, v = .int k a ∧ (Lit.int k a).wf = true := by
  intro n v x h
  obtain ⟨m, hm, _, hw⟩ := DataW.trod_int he h
  exact ⟨m, by simpa using hm, hw⟩
theorem elem_bool {w : World} {e : TypeId} (he : P.underlying e = some .bool) : ∀ (n : Nat) (v : Value) (x : DataW H × List MemPlace), DataW.trod enc P w 0 (fun _ => true) true n e [v] = some x → ∃ a, v = .bool a ∧ True := by
  intro n v x h
  cases n with
  | zero => simp [DataW.trod] at h
  | succ n => cases v <;> simp [DataW.trod, he] at h; exact ⟨_, rfl, trivial⟩
theorem elem_float {w : World} {e : TypeId} {k : FloatKind} (he : P.underlying e = some (.float k)) : ∀ (n : Nat) (v : Value) (x : DataW H × List MemPlace), DataW.trod enc P w 0 (fun _ => true) true n e [v] = some x → ∃ a, v = .float k a ∧ (Lit.float k a).wf = true := by
  intro n v x h
  cases n with
  | zero => simp [DataW.trod] at h
  | succ n =>
    cases v <;> simp [DataW.trod, he] at h
    obtain ⟨⟨rfl, hw⟩, _⟩ := h
    exact ⟨_, rfl, hw⟩
end


theorem cells_i64 : Try.prog.cellsOf 2 = 1 := by kernel_rfl
set_option maxRecDepth 100000 in
theorem open_i64s {H : Type} {enc : TypeId × Value → H} {w : World} {r : Reach} {b0 : Nat} {v : Value} {d : DataW H} {p : List MemPlace} (hval : Value.okWide Try.prog w r b0 22 v) (h : DataW.Trod enc Try.prog w 0 (fun _ => true) true 22 v d p) :
    ∃ (A : Option Addr) (n cap : Nat) (xs : List Int), v = .slice A n cap ∧ xs.length = n ∧ n ≤ cap ∧ cap ≤ maxLen ∧ (∀ a ∈ xs, (Lit.int .i64 a).wf = true) ∧ Sl w w.heap.size A (xs.map (Value.int .i64)) := by
  have h1 := @open_sl H enc Try.prog Int _ (Value.int .i64) (fun a => (Lit.int .i64 a).wf = true) 22 2 Try.underlying22 cells_i64 w
  have h2 := @elem_int H enc Try.prog w 2 .i64 Try.underlying2
  have h3 := @h1 h2 r b0 v d p
  exact h3 hval h


theorem cells_bool : Try.prog.cellsOf 4 = 1 := by kernel_rfl
set_option maxRecDepth 100000 in
theorem open_bools {H : Type} {enc : TypeId × Value → H} {w : World} {r : Reach} {b0 : Nat} {v : Value} {d : DataW H} {p : List MemPlace} (hval : Value.okWide Try.prog w r b0 41 v) (h : DataW.Trod enc Try.prog w 0 (fun _ => true) true 41 v d p) :
    ∃ (A : Option Addr) (n cap : Nat) (xs : List Bool), v = .slice A n cap ∧ xs.length = n ∧ n ≤ cap ∧ cap ≤ maxLen ∧ (∀ a ∈ xs, True) ∧ Sl w w.heap.size A (xs.map Value.bool) := by
  have h1 := @open_sl H enc Try.prog Bool _ Value.bool (fun a => True) 41 4 Try.underlying41 cells_bool w
  have h2 := @elem_bool H enc Try.prog w 4 Try.underlying4
  have h3 := @h1 h2 r b0 v d p
  exact h3 hval h


theorem cells_f32 : Try.prog.cellsOf 46 = 1 := by kernel_rfl
set_option maxRecDepth 100000 in
theorem open_f32s {H : Type} {enc : TypeId × Value → H} {w : World} {r : Reach} {b0 : Nat} {v : Value} {d : DataW H} {p : List MemPlace} (hval : Value.okWide Try.prog w r b0 25 v) (h : DataW.Trod enc Try.prog w 0 (fun _ => true) true 25 v d p) :
    ∃ (A : Option Addr) (n cap : Nat) (xs : List Nat), v = .slice A n cap ∧ xs.length = n ∧ n ≤ cap ∧ cap ≤ maxLen ∧ (∀ a ∈ xs, (Lit.float .f32 a).wf = true) ∧ Sl w w.heap.size A (xs.map (Value.float .f32)) := by
  have h1 := @open_sl H enc Try.prog Nat _ (Value.float .f32) (fun a => (Lit.float .f32 a).wf = true) 25 46 Try.underlying25 cells_f32 w
  have h2 := @elem_float H enc Try.prog w 46 .f32 Try.underlying46
  have h3 := @h1 h2 r b0 v d p
  exact h3 hval h


set_option maxRecDepth 100000 in
theorem open_i64s_trod {H : Type} {enc : TypeId × Value → H} {w : World} {v : Value} {fuel : Nat} {y : DataW H × List MemPlace} (h : DataW.trod enc Try.prog w 0 (fun _ => true) true fuel 22 [v] = some y) :
    ∃ (A : Option Addr) (n cap : Nat) (xs : List Int), v = .slice A n cap ∧ xs.length = n ∧ n ≤ cap ∧ cap ≤ maxLen ∧ (∀ a ∈ xs, (Lit.int .i64 a).wf = true) ∧ Sl w w.heap.size A (xs.map (Value.int .i64)) := by
  have h1 := @open_sl_trod H enc Try.prog Int _ (Value.int .i64) (fun a => (Lit.int .i64 a).wf = true) 22 2 Try.underlying22 cells_i64 w
  have h2 := @elem_int H enc Try.prog w 2 .i64 Try.underlying2
  have h3 := @h1 h2 v fuel y
  exact h3 h

set_option maxRecDepth 100000 in
theorem open_Coder {H : Type} {enc : TypeId × Value → H} {w : World} {r : Reach} {b0 : Nat} {v : Value} {d : DataW H} {p : List MemPlace} (hval : Value.okWide Try.prog w r b0 24 v) (h : DataW.Trod enc Try.prog w 0 (fun _ => true) true 24 v d p) :
    ∃ (m : Int) (A : Option Addr) (n cap : Nat) (xs : List Int), v = .agg #[.int .i64 m, .slice A n cap] ∧ xs.length = n ∧ n ≤ maxLen ∧ Sl w w.heap.size A (xs.map (Value.int .i64)) := by
  obtain ⟨v0, v1, y0, y1, n, rfl, _, _, h0, h1⟩ := Joins.open_agg2 Try.underlying24 (by kernel_rfl) (by kernel_rfl) hval h
  obtain ⟨m, hm, _, _⟩ := DataW.trod_int Try.underlying2 h0
  obtain ⟨A, n, cap, xs, rfl, hl, hc, hc2, _, hs⟩ := open_i64s_trod h1
  obtain rfl : v0 = .int .i64 m := by simpa using hm
  exact ⟨m, A, n, cap, xs, rfl, hl, Nat.le_trans hc hc2, hs⟩

end Go.Proofs.Ytopeidmafalklaa


namespace Go.Proofs.Ytopeidmafalklaa
open Go.ChangeShapes Go.WideShapes Go.ChangeAt Go.RowKit


theorem cells_u8 : Try.prog.cellsOf 5 = 1 := by kernel_rfl
set_option maxRecDepth 100000 in
theorem open_u8s {H : Type} {enc : TypeId × Value → H} {w : World} {r : Reach} {b0 : Nat} {v : Value} {d : DataW H} {p : List MemPlace} (hval : Value.okWide Try.prog w r b0 37 v) (h : DataW.Trod enc Try.prog w 0 (fun _ => true) true 37 v d p) :
    ∃ (A : Option Addr) (n cap : Nat) (xs : List Int), v = .slice A n cap ∧ xs.length = n ∧ n ≤ cap ∧ cap ≤ maxLen ∧ (∀ a ∈ xs, (Lit.int .u8 a).wf = true) ∧ Sl w w.heap.size A (xs.map (Value.int .u8)) := by
  have h1 := @open_sl H enc Try.prog Int _ (Value.int .u8) (fun a => (Lit.int .u8 a).wf = true) 37 5 Try.underlying37 cells_u8 w
  have h2 := @elem_int H enc Try.prog w 5 .u8 Try.underlying5
  have h3 := @h1 h2 r b0 v d p
  exact h3 hval h
theorem wf_u8 {a : Int} (h : (Lit.int .u8 a).wf = true) : 0 ≤ a ∧ a ≤ 255 := by
  have e1 : IntKind.u8.min = 0 := rfl
  have e2 : IntKind.u8.max = 255 := rfl
  simp [Lit.wf, e1, e2] at h
  omega

/-- a number from 0 to n - 1, by a byte -/
def atB (xs : List Int) (i n : Int) : Int := if n ≤ 1 then 0 else if i < xs.length then xs.getD i.toNat 0 % n else (i * 37 + 11) % n
theorem atB_bd (xs : List Int) (i n : Int) (h1 : 1 ≤ n) : 0 ≤ atB xs i n ∧ atB xs i n < n := by
  unfold atB
  split
  · omega
  · split
    · exact ⟨Int.emod_nonneg _ (by omega), Int.emod_lt_of_pos _ (by omega)⟩
    · exact ⟨Int.emod_nonneg _ (by omega), Int.emod_lt_of_pos _ (by omega)⟩


set_option maxRecDepth 100000 in
set_option maxHeartbeats 1000000 in
theorem b10At_c (w : World) (B : Nat) (A : Option Addr) (n cap : Nat) (xs : List Int) (hl : xs.length = n) (hb : ∀ x ∈ xs, 0 ≤ x ∧ x ≤ 255) (hx : Sl w B A (xs.map (Value.int .u8))) (i m : Int) (h0 : 0 ≤ i) (h1 : i ≤ 1048576) (h2 : 1 ≤ m) (h3 : m ≤ 1048576) :
    Calls Try.prog 17 #[.slice A n cap, .int .i64 i, .int .i64 m] w fun e w' => e = .returned (.int .i64 (atB xs i m)) ∧ w = w' := by
  by_cases hm : m ≤ 1
  · have e : atB xs i m = 0 := by unfold atB; rw [if_pos hm]
    rw [e]
    clear e
    go_enter Try.func17, Try.ntmps17
    go_wp2
    go_ret
    exact ⟨rfl, rfl⟩
  · by_cases hlt : i < (n : Int)
    · obtain ⟨k, rfl⟩ : ∃ k : Nat, i = k := ⟨i.toNat, by omega⟩
      have hk : k < n := by omega
      obtain ⟨b, off, rfl, hbb, hc1⟩ := hx.get k (by simpa [hl] using hk)
      have hg := hb _ (List.getElem_mem (show k < xs.length by omega))
      have e : atB xs k m = xs[k]'(by omega) % m := by
        unfold atB
        rw [if_neg hm, if_pos (by omega)]
        simp [List.getD, show k < xs.length by omega]
      rw [e]
      obtain ⟨x, ex⟩ : ∃ x, xs[k]'(by omega) = x := ⟨_, rfl⟩
      rw [ex] at hc1 hg ⊢
      have htm : x.tmod m = x % m := Int.tmod_eq_emod_of_nonneg hg.1
      have hPz : (m == 0) = false := by simp; omega
      have hPd : decide (m = 0) = false := by simp; omega
      have hr0 : 0 ≤ x % m := Int.emod_nonneg _ (by omega)
      have hr1 : x % m < m := Int.emod_lt_of_pos _ (by omega)
      obtain ⟨hg1, hg2⟩ := hg
      clear e ex hx hb
      go_enter Try.func17, Try.ntmps17
      go_wp2
      go_ret
      exact ⟨rfl, rfl⟩
    · have e : atB xs i m = (i * 37 + 11) % m := by
        unfold atB
        rw [if_neg hm, if_neg (by omega)]
      rw [e]
      have htm : (i * 37 + 11).tmod m = (i * 37 + 11) % m := Int.tmod_eq_emod_of_nonneg (by omega)
      have hPz : (m == 0) = false := by simp; omega
      have hPd : decide (m = 0) = false := by simp; omega
      have hr0 : 0 ≤ (i * 37 + 11) % m := Int.emod_nonneg _ (by omega)
      have hr1 : (i * 37 + 11) % m < m := Int.emod_lt_of_pos _ (by omega)
      clear e hx hb
      go_enter Try.func17, Try.ntmps17
      go_wp2
      go_ret
      exact ⟨rfl, rfl⟩


set_option maxRecDepth 100000 in
theorem b10Long_c (w : World) (A A2 : Option Addr) (n cap n2 cap2 : Nat) (bb : Bool) (hb : bb = (decide (1048576 < n) || decide (1048576 < n2))) (hn : n ≤ maxLen) (hn2 : n2 ≤ maxLen) :
    Calls Try.prog 15 #[.slice A n cap, .slice A2 n2 cap2] w fun e w' => e = .returned (.bool bb) ∧ w = w' := by
  unfold maxLen at hn hn2
  rcases Nat.lt_or_ge 1048576 n with h1 | h1
  · have e : bb = true := by rw [hb, decide_eq_true h1]; rfl
    rw [e]
    clear e hb
    go_enter Try.func15, Try.ntmps15
    go_wp2
    go_ret
    exact ⟨rfl, rfl⟩
  · rcases Nat.lt_or_ge 1048576 n2 with h2 | h2
    · have e : bb = true := by rw [hb, decide_eq_true h2, Bool.or_true]
      rw [e]
      clear e hb
      go_enter Try.func15, Try.ntmps15
      go_wp2
      go_ret
      exact ⟨ret_bool (by simp; omega), rfl⟩
    · have e : bb = false := by rw [hb, decide_eq_false (by omega), decide_eq_false (by omega)]; rfl
      rw [e]
      clear e hb
      go_enter Try.func15, Try.ntmps15
      go_wp2
      go_ret
      exact ⟨ret_bool (by simp; omega), rfl⟩



/-- two rows lie in two blocks -/
def Ap (v u : Value) : Prop := ∀ g, v.ownBlock = some g → u.ownBlock ≠ some g
theorem Ap.symm {v u : Value} (h : Ap v u) : Ap u v := fun g h1 h2 => h g h2 h1
theorem ap_kept {w w' : World} {base : Nat} {e : TypeId} {v u : Value} {n : Nat} {xs : List Value} (h : w.ownsRow base e 1 v n xs) (hp : Ap v u) (hg : w.grownBy w' u.ownBlock) : w'.ownsRow base e 1 v n xs :=
  h.kept hg (by
    cases hv : v.ownBlock with
    | none => exact .inl rfl
    | some g => exact .inr fun he => hp g hv he.symm)
theorem Ap.of_new {w w0 : World} {base0 n : Nat} {e : TypeId} {v v' u : Value} {xs : List Value} (hp : Ap v u) (hu : w0.ownsRow base0 e 1 u n xs) (hz : w0.heap.size ≤ w.heap.size) (hat : v'.ownBlock = v.ownBlock ∨ v'.ownBlock = some w.heap.size) : Ap v' u := fun g h1 h2 => by
  rcases hat with h | h
  · exact hp g (h ▸ h1) h2
  · rw [h] at h1
    have h3 := (hu.lt g h2).2
    have h4 : w.heap.size = g := Option.some.inj h1
    omega
theorem appA {P : Program} {t e : TypeId} (ht : P.underlying t = some (.slice e)) {z : Value} {bytes : Nat} (hi : (P.info? e).map (fun i => (i.zero, i.size, i.bytes)) = some (some z, 1, bytes)) (hz : z.cells.size = 1) (hby : bytes ≤ 64)
    {w : World} {ops : Array Oper} {rest : List Oper} {o : Oper} {a : Act} {Q : Exit → Act → World → Prop} (hgd : o.guard = none) (s x : Operand)
    (ho : o.op = .call { callee := .builtin .append, args := #[s, x], argTypes := #[t, t] }) (base : Nat) (v : Value) (xs : List Value) (hs : a.eval s = v) (hown : Ow w base e v xs)
    (g c : Nat) (u : Value) (hx : a.eval x = .slice (some ⟨g, 0, none⟩) 1 c) (hc : w.cell? ⟨g, 0, none⟩ = some u) (h1 : u.oneCell' = true)
    (hlen : xs.length + 1 ≤ 1099511627776) (hbase : base ≤ w.heap.size)
    (h : ∀ v' w', Ow w' base e v' (xs ++ [u]) → w.grownBy w' v.ownBlock → (v'.ownBlock = v.ownBlock ∨ v'.ownBlock = some w.heap.size) → wpList P ops Q rest (a.put o.dst v') w') : wpList P ops Q (o :: rest) a w := by
  obtain ⟨i, hi1, hi2, hi3, hi4⟩ := info_ok hi
  refine wpList_append_own_at (P := P) w hgd s x t ho base e i z 1 bytes ht hi1 hi2 hi3 hi4 hz (by decide) v xs.length xs hs hown ⟨g, 0, none⟩ 1 c [u] hx (by simp) ?_ (by simpa using h1) ?_ ?_ hbase ?_
  · intro j u' hu
    have e1 : (⟨g, 0, none⟩ : Addr).add j = ⟨g, j, none⟩ := by unfold Addr.add; split <;> simp_all
    rw [e1]
    cases j with
    | zero => cases hu; exact hc
    | succ j => cases hu
  · unfold maxLen; omega
  · have h2 : (xs.length + 1) * bytes ≤ 1099511627776 * 64 := Nat.mul_le_mul hlen hby
    omega
  · intro v' w' h2 h3 _ h5
    refine h v' w' ?_ h3 h5
    unfold Ow
    rw [List.length_append, List.length_singleton]
    exact h2

end Go.Proofs.Ytopeidmafalklaa


namespace Go.Proofs.Ytopeidmafalklaa
open Ieee Go.RowKit

/-- a positive normal number of double precision, by its word -/
def Norm (x : Nat) : Prop := 4503599627370496 ≤ x ∧ x < 9218868437227405312
theorem read_norm {x : Nat} (h : Norm x) : double.read x = .number false (4503599627370496 + x % 4503599627370496) (-1074 + ((x / 4503599627370496 - 1 : Nat) : Int)) := by
  obtain ⟨h1, h2⟩ := h
  have e1 : x / double.signWeight % 2 = 0 := by rw [sw64]; omega
  have e2 : x % double.signWeight = x := by rw [sw64]; omega
  unfold Format.read
  simp only [e1, e2, bi64, ir64]
  rw [if_neg (by omega), if_pos (by omega)]
  rfl
theorem log_m {r : Nat} (h : r < 4503599627370496) : (4503599627370496 + r).log2 = 52 := by
  rw [Nat.log2_eq_iff (by omega)]
  omega
theorem cut_exact (neg : Bool) (m k : Nat) (hm : m ≠ 0) : Toward.even.cut neg (m * 2 ^ k) k = m := by
  have hl : k ≤ (m * 2 ^ k).log2 := by
    rw [Nat.le_log2 (by have := Nat.pos_of_ne_zero hm; have := Nat.pow_pos (n := k) (show 0 < 2 by decide); exact Nat.ne_of_gt (Nat.mul_pos (by omega) this))]
    exact Nat.le_mul_of_pos_left _ (Nat.pos_of_ne_zero hm)
  unfold Toward.cut
  have e1 : min k ((m * 2 ^ k).log2 + 2) = k := by omega
  have hp : 0 < 2 ^ k := Nat.pow_pos (by decide)
  simp only [e1, Nat.one_shiftLeft]
  rw [Nat.mul_div_cancel _ hp, Nat.mul_mod_left]
  have e2 : (decide (2 ^ k < 2 * 0) || (2 ^ k == 2 * 0 && m % 2 == 1)) = false := by
    have : ¬ 2 ^ k < 2 * 0 := by omega
    have h3 : (2 ^ k == 2 * 0) = false := by
      rw [beq_eq_false_iff_ne]
      omega
    rw [decide_eq_false this, h3]
    rfl
  rw [e2]
  rfl
theorem log2_mul_pow (m k : Nat) (hm : m ≠ 0) : (m * 2 ^ k).log2 = m.log2 + k := by
  have hp : 0 < 2 ^ k := Nat.pow_pos (by decide)
  rw [Nat.log2_eq_iff (Nat.ne_of_gt (Nat.mul_pos (Nat.pos_of_ne_zero hm) hp))]
  have h1 := Nat.log2_self_le hm
  have h2 := Nat.lt_log2_self (n := m)
  rw [Nat.pow_add, show m.log2 + k + 1 = (m.log2 + 1) + k by omega, Nat.pow_add]
  exact ⟨Nat.mul_le_mul_right _ h1, Nat.mul_lt_mul_of_pos_right h2 hp⟩
/-- a significand, more digits of it, rounds to itself -/
theorem nearest_at {M k : Nat} (hm : M ≠ 0) (hl : M.log2 = 52) {i p : Int} (hi : -1074 ≤ i) (hp : p = i - (k : Int)) :
    double.nearest false (M * 2 ^ k) p = min ((i + 1074).toNat * 4503599627370496 + M) 9218868437227405312 := by
  have h0 : M * 2 ^ k ≠ 0 := Nat.ne_of_gt (Nat.mul_pos (Nat.pos_of_ne_zero hm) (Nat.pow_pos (by decide)))
  have hl2 : (M * 2 ^ k).log2 = 52 + k := by rw [log2_mul_pow _ _ hm, hl]
  have hc := cut_exact false M k hm
  have hw : ∀ r, double.word false r = r := fun r => rfl
  obtain ⟨N, hN⟩ : ∃ N, M * 2 ^ k = N := ⟨_, rfl⟩
  rw [hN] at h0 hl2 hc ⊢
  have hlp : double.leastPlace = -1074 := by decide
  have e1 : max (p + (N.log2 : Int) - (double.fractionBits : Int)) double.leastPlace = i := by
    rw [hl2, hlp, show double.fractionBits = 52 from rfl]
    omega
  unfold Format.nearest
  rw [if_neg h0]
  simp only [e1, hw]
  rw [show (p - i).toNat = 0 by omega, show (i - p).toNat = k by omega, Nat.shiftLeft_zero, hc, bi64, ir64, hlp]
  rw [show (i - -1074).toNat = (i + 1074).toNat by omega]
/-- twice a normal number -/
theorem double_norm {x : Nat} (h : Norm x) (h2 : Norm (x + 4503599627370496)) : floatBits .mul .f64 x 4611686018427387904 = some (x + 4503599627370496) := by
  have hr := read_norm h
  have ht : double.read 4611686018427387904 = .number false 4503599627370496 (-51) := by decide
  obtain ⟨r, er⟩ : ∃ r, x % 4503599627370496 = r := ⟨_, rfl⟩
  obtain ⟨q, eq⟩ : ∃ q, x / 4503599627370496 = q := ⟨_, rfl⟩
  rw [er, eq] at hr
  have hx : x = q * 4503599627370496 + r := by omega
  have hr2 : r < 4503599627370496 := by omega
  have hq : 1 ≤ q := by unfold Norm at h; omega
  have hlog := log_m hr2
  obtain ⟨M, hM⟩ : ∃ M, 4503599627370496 + r = M := ⟨_, rfl⟩
  rw [hM] at hr hlog
  have hn := nearest_at (M := M) (k := 52) (by omega) hlog (i := -1074 + ((q - 1 : Nat) : Int) + 1) (p := -1074 + ((q - 1 : Nat) : Int) + -51) (by omega) (by omega)
  show ((double.read x).product (double.read 4611686018427387904)).map double.write = _
  rw [hr, ht]
  show some (double.nearest (false ^^ false) (M * 4503599627370496) (-1074 + ((q - 1 : Nat) : Int) + -51)) = _
  rw [show (4503599627370496 : Nat) = 2 ^ 52 by decide] at *
  rw [show (false ^^ false) = false from rfl, hn]
  unfold Norm at h2
  congr 1
  omega

/-- half of a normal number -/
theorem half_norm {x : Nat} (h : Norm x) (h2 : 9007199254740992 ≤ x) : floatBits .quo .f64 x 4611686018427387904 = some (x - 4503599627370496) := by
  have hr := read_norm h
  have ht : double.read 4611686018427387904 = .number false 4503599627370496 (-51) := by decide
  obtain ⟨r, er⟩ : ∃ r, x % 4503599627370496 = r := ⟨_, rfl⟩
  obtain ⟨q, eq⟩ : ∃ q, x / 4503599627370496 = q := ⟨_, rfl⟩
  rw [er, eq] at hr
  have hx : x = q * 4503599627370496 + r := by omega
  have hr2 : r < 4503599627370496 := by omega
  have hq : 2 ≤ q := by omega
  have hq2 : q ≤ 2046 := by unfold Norm at h; omega
  have hlog := log_m hr2
  obtain ⟨M, hM⟩ : ∃ M, 4503599627370496 + r = M := ⟨_, rfl⟩
  rw [hM] at hr hlog
  have hB : (4503599627370496 : Nat).log2 = 52 := by decide
  have hdiv : (M <<< 54) / 4503599627370496 = M * 4 := by
    rw [Nat.shiftLeft_eq, show (2 : Nat) ^ 54 = 4 * 4503599627370496 by decide, ← Nat.mul_assoc, Nat.mul_div_cancel _ (by decide)]
  have hmod : (M <<< 54) % 4503599627370496 = 0 := by
    rw [Nat.shiftLeft_eq, show (2 : Nat) ^ 54 = 4 * 4503599627370496 by decide, ← Nat.mul_assoc, Nat.mul_mod_left]
  have hn := nearest_at (M := M) (k := 3) (by omega) hlog (i := -1074 + ((q - 1 : Nat) : Int) - 1) (p := -1074 + ((q - 1 : Nat) : Int) - -51 - 54 - 1) (by omega) (by omega)
  have hqt : (Datum.number false M (-1074 + ((q - 1 : Nat) : Int))).quotient 54 (.number false 4503599627370496 (-51)) = some (.number false (M * 2 ^ 3) (-1074 + ((q - 1 : Nat) : Int) - -51 - 54 - 1)) := by
    unfold Datum.quotient
    obtain ⟨B, eB⟩ : ∃ B : Nat, 4503599627370496 = B := ⟨_, rfl⟩
    have hB0 : ¬ B = 0 := by omega
    rw [eB] at hB hdiv hmod ⊢
    simp only [if_neg hB0, hB, hlog]
    rw [show 54 + 52 - 52 = 54 from rfl, hdiv, hmod]
    rw [show 2 * (M * 4) + ((0 : Nat) != 0).toNat = M * 2 ^ 3 by show 2 * (M * 4) + 0 = _; omega]
    rfl
  show ((double.read x).quotient 54 (double.read 4611686018427387904)).map double.write = _
  rw [hr, ht, hqt]
  show some (double.nearest false (M * 2 ^ 3) (-1074 + ((q - 1 : Nat) : Int) - -51 - 54 - 1)) = _
  rw [hn]
  refine congrArg some ?_
  rw [Nat.min_def]
  split <;> omega

theorem cmp_cast (a b : Nat) : compare (a : Int) (b : Int) = compare a b := by
  show compareOfLessAndEq (a : Int) (b : Int) = compareOfLessAndEq a b
  unfold compareOfLessAndEq
  by_cases h : a < b
  · rw [if_pos h, if_pos (by omega)]
  · rw [if_neg h, if_neg (by omega)]
    by_cases h2 : a = b
    · rw [if_pos h2, if_pos (by omega)]
    · rw [if_neg h2, if_neg (by omega)]
theorem cmp_lt {a b : Nat} (h : a < b) : compare a b = .lt := by
  show compareOfLessAndEq a b = _
  unfold compareOfLessAndEq
  rw [if_pos h]
theorem cmp_gt {a b : Nat} (h : b < a) : compare a b = .gt := by
  show compareOfLessAndEq a b = _
  unfold compareOfLessAndEq
  rw [if_neg (by omega), if_neg (by omega)]
theorem cmp_add (c a b : Nat) : compare (c + a) (c + b) = compare a b := by
  show compareOfLessAndEq (c + a) (c + b) = compareOfLessAndEq a b
  unfold compareOfLessAndEq
  by_cases h : a < b
  · rw [if_pos h, if_pos (by omega)]
  · rw [if_neg h, if_neg (by omega)]
    by_cases h2 : a = b
    · rw [if_pos h2, if_pos (by omega)]
    · rw [if_neg h2, if_neg (by omega)]
/-- words of normal numbers stand as the numbers do -/
theorem order_norm {x y : Nat} (hx : Norm x) (hy : Norm y) : FloatKind.f64.format.order x y = some (compare x y) := by
  have hr := read_norm hx
  have hs := read_norm hy
  obtain ⟨r, er⟩ : ∃ r, x % 4503599627370496 = r := ⟨_, rfl⟩
  obtain ⟨q, eq⟩ : ∃ q, x / 4503599627370496 = q := ⟨_, rfl⟩
  obtain ⟨s, es⟩ : ∃ r, y % 4503599627370496 = r := ⟨_, rfl⟩
  obtain ⟨p, ep⟩ : ∃ q, y / 4503599627370496 = q := ⟨_, rfl⟩
  rw [er, eq] at hr
  rw [es, ep] at hs
  have h1 : x = q * 4503599627370496 + r := by omega
  have h2 : y = p * 4503599627370496 + s := by omega
  have hq : 1 ≤ q := by unfold Norm at hx; omega
  have hp : 1 ≤ p := by unfold Norm at hy; omega
  have hrB : r < 4503599627370496 := by omega
  have hsB : s < 4503599627370496 := by omega
  show (double.read x).order (double.read y) = _
  rw [hr, hs]
  unfold Datum.order
  simp only
  obtain ⟨M, hM⟩ : ∃ M, 4503599627370496 + r = M := ⟨_, rfl⟩
  obtain ⟨N, hN⟩ : ∃ N, 4503599627370496 + s = N := ⟨_, rfl⟩
  rw [hM, hN]
  have sg : ∀ m k : Nat, signed false m k = ((m * 2 ^ k : Nat) : Int) := fun m k => by
    unfold signed
    rw [if_neg (by decide), Nat.shiftLeft_eq]
  rw [sg, sg, cmp_cast]
  refine congrArg some ?_
  rcases Nat.lt_trichotomy q p with h | h | h
  · rw [show (-1074 + ((q - 1 : Nat) : Int) - min (-1074 + ((q - 1 : Nat) : Int)) (-1074 + ((p - 1 : Nat) : Int))).toNat = 0 by omega, show (-1074 + ((p - 1 : Nat) : Int) - min (-1074 + ((q - 1 : Nat) : Int)) (-1074 + ((p - 1 : Nat) : Int))).toNat = (p - q - 1) + 1 by omega, cmp_lt (show x < y by omega)]
    refine cmp_lt ?_
    have h3 : 1 ≤ 2 ^ (p - q - 1) := Nat.pow_pos (by decide)
    rw [Nat.pow_succ, Nat.pow_zero, ← Nat.mul_assoc]
    have h4 : N * 1 ≤ N * 2 ^ (p - q - 1) := Nat.mul_le_mul_left N h3
    omega
  · subst h
    rw [show (-1074 + ((q - 1 : Nat) : Int) - min (-1074 + ((q - 1 : Nat) : Int)) (-1074 + ((q - 1 : Nat) : Int))).toNat = 0 by omega, Nat.pow_zero, Nat.mul_one, Nat.mul_one, h1, h2, ← hM, ← hN, cmp_add, cmp_add]
  · rw [show (-1074 + ((p - 1 : Nat) : Int) - min (-1074 + ((q - 1 : Nat) : Int)) (-1074 + ((p - 1 : Nat) : Int))).toNat = 0 by omega, show (-1074 + ((q - 1 : Nat) : Int) - min (-1074 + ((q - 1 : Nat) : Int)) (-1074 + ((p - 1 : Nat) : Int))).toNat = (q - p - 1) + 1 by omega, cmp_gt (show y < x by omega)]
    refine cmp_gt ?_
    have h3 : 1 ≤ 2 ^ (q - p - 1) := Nat.pow_pos (by decide)
    rw [Nat.pow_succ, Nat.pow_zero, ← Nat.mul_assoc]
    have h4 : M * 1 ≤ M * 2 ^ (q - p - 1) := Nat.mul_le_mul_left M h3
    omega

end Go.Proofs.Ytopeidmafalklaa


namespace Go.Proofs.Ytopeidmafalklaa
open Go.RowKit

theorem fl0 : fl .f32 0 = some 0 := by decide

/-- a number that is neither an infinity nor a NaN -/
def finB (x : Option Nat) : Bool := ford .f32 (fop .sub .f32 x x) (some 0) == some Ordering.eq
theorem finB_eq (x : Nat) (t : Tape) (d : Nat) : (FloatKind.f32.format.order (fres .sub .f32 x x t d) 0 == some Ordering.eq) = finB (fl .f32 x) := by
  rw [order_fl, fl_fres, fl0]
  rfl


theorem spec_l01Finite_c (w : World) (x : Nat) : Calls Try.prog 68 #[.float .f32 x] w fun e w' => e = .returned (.bool (finB (fl .f32 x))) ∧ ∃ n, w' = w.drewN n := by
  go_enter Try.func68, Try.ntmps68
  go_wp2
  go_ret
  exact ⟨ret_bool (finB_eq _ _ _), _, rfl⟩


theorem impl_IsFinite_c (w : World) (x : Nat) : Calls Try.prog 60 #[.float .f32 x] w fun e w' => e = .returned (.bool (finB (fl .f32 x))) ∧ ∃ n, w' = w.drewN n := by
  go_enter Try.func60, Try.ntmps60
  go_wp2
  go_ret
  exact ⟨ret_bool (finB_eq _ _ _), _, rfl⟩


set_option maxHeartbeats 400000 in
theorem spec_l02Finite_c (w : World) (B : Nat) (A : Option Addr) (n cap : Nat) (xs : List Nat) (hl : xs.length = n) (hn : n ≤ 1099511627776) (hx : Sl w B A (xs.map (Value.float .f32))) :
    Calls Try.prog 40 #[.slice A n cap] w fun e w' => e = .returned (.bool (xs.all fun x => finB (fl .f32 x))) ∧ ∃ n, w' = w.drewN n := by
  go_enter Try.func40, Try.ntmps40
  go_wp2
  go_loopw [3] (fun i wr => ∃ k m : Nat, k ≤ n ∧ i = .int .i64 k ∧ (xs.take k).all (fun x => finB (fl .f32 x)) = true ∧ wr = w.drewN m) (fun i _ => n - (intOf i).toNat)
  case atStart => exact ⟨0, 0, Nat.zero_le _, rfl, rfl, rfl⟩
  case round =>
    obtain ⟨k, m, hk, rfl, hp, rfl⟩ := hrel
    have HP := Lib.hid hp
    clear hp
    by_cases hlt : k < n
    · obtain ⟨b, off, rfl, hbb, hc1⟩ := hx.get k (by omega)
      clear hx
      cases hf : finB (fl .f32 (xs[k]'(by omega)))
      · have HF := Lib.hid hf
        go_wp2_with (go_at_call 68; refine (spec_l01Finite_c _ _).mono ?_; rintro e w' ⟨rfl, q, rfl⟩; rw [HF.out])
        go_ret
        refine ⟨ret_bool ?_, _, rfl⟩
        rw [eq_comm, ← Bool.not_eq_true, List.all_eq_true]
        intro h
        have := h _ (List.getElem_mem (show k < xs.length by omega))
        rw [hf] at this
        cases this
      · have HF := Lib.hid hf
        clear hf
        go_wp2_with (go_at_call 68; refine (spec_l01Finite_c _ _).mono ?_; rintro e w' ⟨rfl, q, rfl⟩; rw [HF.out])
        go_roundw
        case rel =>
          refine ⟨k+1, _, by omega, by go_num, ?_, rfl⟩
          rw [List.take_succ_eq_append_getElem (by omega), List.all_append, HP.out]
          simp [HF.out]
        case measure => simp [intOf]; omega
    · have : k = n := by omega
      subst this
      go_wp2
      go_ret
      exact ⟨ret_bool (by rw [take_all hl] at HP; exact HP.out.symm), _, rfl⟩


theorem impl_areFinite1_c (w : World) (x : Nat) : Calls Try.prog 81 #[.float .f32 x] w fun e w' => e = .returned (.bool (!finB (fl .f32 x))) ∧ ∃ n, w' = w.drewN n := by
  go_enter Try.func81, Try.ntmps81
  go_wp2_with (go_at_call 60; refine (impl_IsFinite_c _ _).mono ?_; rintro e w' ⟨rfl, q, rfl⟩)
  go_ret
  exact ⟨rfl, _, rfl⟩

/-- the first place at which a test holds, or -1 -/
def idxB (p : Value → Bool) (l : List Value) : Int := match l.findIdx? p with | some i => i | none => -1
theorem idxB_some {p : Value → Bool} {l : List Value} {k : Nat} (hk : k < l.length) (hp : ∀ u ∈ l.take k, p u = false) (h : p l[k] = true) : idxB p l = k := by
  have : l.findIdx? p = some k := by
    rw [List.findIdx?_eq_some_iff_getElem]
    refine ⟨hk, h, fun j hj => ?_⟩
    have h1 := hp (l[j]'(by omega)) (by
      rw [List.mem_take_iff_getElem]
      exact ⟨j, by omega, rfl⟩)
    simp [h1]
  simp [idxB, this]
theorem idxB_none {p : Value → Bool} {l : List Value} (hp : ∀ u ∈ l, p u = false) : idxB p l = -1 := by
  have : l.findIdx? p = none := by
    rw [List.findIdx?_eq_none_iff]
    exact hp
  simp [idxB, this]
theorem idxB_any (p : Value → Bool) (l : List Value) : decide (idxB p l ≥ 0) = l.any p := by
  rcases h : l.findIdx? p with _ | i
  · have h1 := List.findIdx?_eq_none_iff.1 h
    have h2 : l.any p = false := by
      rw [← Bool.not_eq_true, List.any_eq_true]
      rintro ⟨x, hx, hp⟩
      rw [h1 x hx] at hp
      cases hp
    simp [idxB, h, h2]
  · have h1 := List.findIdx?_eq_some_iff_getElem.1 h
    have h2 : l.any p = true := List.any_eq_true.2 ⟨_, List.getElem_mem h1.1, h1.2.1⟩
    simp [idxB, h, h2]

/-- a function value that tests elements, quietly -/
def Tests (g : FuncId) (lb : Array Value) (p : Value → Bool) (w : World) (l : List Value) : Prop :=
  (∀ args w, (callFunc g args).run Try.prog w = .ok (.enter g args) w) ∧ ∀ u ∈ l, ∀ m, Calls Try.prog g (#[u] ++ lb) (w.drewN m) fun e w' => e = .returned (.bool (p u)) ∧ ∃ n, w' = (w.drewN m).drewN n


set_option maxRecDepth 100000 in
set_option maxHeartbeats 400000 in
theorem IndexFunc_f32_c (w : World) (B : Nat) (A : Option Addr) (n cap : Nat) (l : List Value) (hl : l.length = n) (hn : n ≤ 1099511627776) (hx : Sl w B A l) (g : FuncId) (p : Value → Bool) (ht : Tests g #[] p w l) :
    Calls Try.prog 93 #[.slice A n cap, .func (.func g) #[] #[]] w fun e w' => e = .returned (.int .i64 (idxB p l)) ∧ ∃ n, w' = w.drewN n := by
  obtain ⟨hent, ht⟩ := ht
  have HT := Lib.hid ht
  clear ht
  go_enter Try.func93, Try.ntmps93
  go_wp2
  go_loopw [8] (fun i wr => ∃ k m : Nat, k ≤ n ∧ i = .int .i64 k ∧ (∀ u ∈ l.take k, p u = false) ∧ wr = w.drewN m) (fun i _ => n - (intOf i).toNat)
  case atStart => exact ⟨0, 0, Nat.zero_le _, rfl, by simp, rfl⟩
  case round =>
    obtain ⟨k, m, hk, rfl, hp, rfl⟩ := hrel
    have HP := Lib.hid hp
    clear hp
    by_cases hlt : k < n
    · obtain ⟨b, off, rfl, hbb, hc⟩ := hx.at_ (k := k) (by omega)
      have hc1 := hc k (l[k]'(by omega)) (List.getElem?_eq_getElem _)
      obtain ⟨u, hu⟩ : ∃ u, l[k]'(by omega) = u := ⟨_, rfl⟩
      rw [hu] at hc1
      have HU := Lib.hid hu
      clear hu hc hx
      cases hp1 : p u
      · have HP1 := Lib.hid hp1
        clear hp1
        go_wp2_with fail
        refine (HT.out u (by rw [← HU.out]; exact List.getElem_mem _) m).mono ?_
        rintro e w' ⟨rfl, q, rfl⟩
        rw [HP1.out]
        go_wp2
        go_roundw
        case rel =>
          refine ⟨k+1, _, by omega, by go_num, ?_, rfl⟩
          rw [List.take_succ_eq_append_getElem (by omega)]
          intro v hv
          rcases List.mem_append.1 hv with h | h
          · exact HP.out v h
          · rw [List.mem_singleton.1 h, HU.out]; exact HP1.out
        case measure => simp [intOf]; omega
      · have HP1 := Lib.hid hp1
        clear hp1
        go_wp2_with fail
        refine (HT.out u (by rw [← HU.out]; exact List.getElem_mem _) m).mono ?_
        rintro e w' ⟨rfl, q, rfl⟩
        rw [HP1.out]
        go_wp2
        go_ret
        exact ⟨ret_int (idxB_some (by omega) HP.out (by rw [HU.out]; exact HP1.out)).symm, _, rfl⟩
    · have : k = n := by omega
      subst this
      go_wp2
      go_ret
      exact ⟨ret_int (by rw [take_all hl] at HP; exact (idxB_none HP.out).symm), _, rfl⟩


theorem ContainsFunc_f32_c (w : World) (B : Nat) (A : Option Addr) (n cap : Nat) (l : List Value) (hl : l.length = n) (hn : n ≤ 1099511627776) (hx : Sl w B A l) (g : FuncId) (p : Value → Bool) (ht : Tests g #[] p w l) :
    Calls Try.prog 80 #[.slice A n cap, .func (.func g) #[] #[]] w fun e w' => e = .returned (.bool (l.any p)) ∧ ∃ n, w' = w.drewN n := by
  go_enter Try.func80, Try.ntmps80
  go_wp2_with (go_at_call 93; refine (IndexFunc_f32_c _ B A n cap l hl hn hx g p ht).mono ?_; rintro e w' ⟨rfl, q, rfl⟩)
  go_ret
  exact ⟨ret_bool (by rw [← idxB_any]), _, rfl⟩


def notFin (u : Value) : Bool := match u with | .float _ x => !finB (fl .f32 x) | _ => false
theorem any_notFin (xs : List Nat) : (xs.map (Value.float .f32)).any notFin = !(xs.all fun x => finB (fl .f32 x)) := by
  rw [List.any_map, List.not_all_eq_any_not]
  rfl
theorem tests_notFin (w : World) (xs : List Nat) : Tests 81 #[] notFin w (xs.map (Value.float .f32)) := by
  refine ⟨Try.call81, fun u hu m => ?_⟩
  obtain ⟨x, _, rfl⟩ := List.mem_map.1 hu
  exact impl_areFinite1_c _ x

theorem impl_areFinite_c (w : World) (B : Nat) (A : Option Addr) (n cap : Nat) (xs : List Nat) (hl : xs.length = n) (hn : n ≤ 1099511627776) (hx : Sl w B A (xs.map (Value.float .f32))) :
    Calls Try.prog 51 #[.slice A n cap] w fun e w' => e = .returned (.bool (xs.all fun x => finB (fl .f32 x))) ∧ ∃ n, w' = w.drewN n := by
  go_enter Try.func51, Try.ntmps51
  go_wp2_with (go_at_call 80; refine (ContainsFunc_f32_c _ B A n cap (xs.map (Value.float .f32)) (by simpa using hl) hn hx _ notFin (tests_notFin _ _)).mono ?_; rintro e w' ⟨rfl, q, rfl⟩)
  go_ret
  exact ⟨ret_bool (by have h := any_notFin xs; rw [List.any_map] at h; rw [h, Bool.not_not]), _, rfl⟩


def softB (xs : List Nat) : Bool := decide (xs.length ≤ 160) && xs.all fun x => finB (fl .f32 x)

set_option maxRecDepth 100000 in
theorem impl_IsSoft_c (w : World) (B : Nat) (A : Option Addr) (n cap : Nat) (xs : List Nat) (hl : xs.length = n) (hx : Sl w B A (xs.map (Value.float .f32))) :
    Calls Try.prog 26 #[.slice A n cap] w fun e w' => e = .returned (.bool (softB xs)) ∧ ∃ n, w' = w.drewN n := by
  by_cases h : n ≤ 160
  · have hs : softB xs = xs.all fun x => finB (fl .f32 x) := by unfold softB; rw [hl, decide_eq_true h, Bool.true_and]
    rw [hs]
    clear hs
    go_enter Try.func26, Try.ntmps26
    go_wp2_with (go_at_call 51; refine (impl_areFinite_c _ B A n cap xs hl (by omega) hx).mono ?_; rintro e w' ⟨rfl, q, rfl⟩)
    go_ret
    exact ⟨rfl, _, rfl⟩
  · have hs : softB xs = false := by unfold softB; rw [hl, decide_eq_false h, Bool.false_and]
    rw [hs]
    clear hs
    go_enter Try.func26, Try.ntmps26
    go_wp2
    go_ret
    exact ⟨rfl, 0, rfl⟩


set_option maxRecDepth 100000 in
theorem spec_l07Soft_c (w : World) (B : Nat) (A : Option Addr) (n cap : Nat) (xs : List Nat) (hl : xs.length = n) (hx : Sl w B A (xs.map (Value.float .f32))) :
    Calls Try.prog 35 #[.slice A n cap] w fun e w' => e = .returned (.bool (softB xs)) ∧ ∃ n, w' = w.drewN n := by
  by_cases h : n ≤ 160
  · have hs : softB xs = xs.all fun x => finB (fl .f32 x) := by unfold softB; rw [hl, decide_eq_true h, Bool.true_and]
    rw [hs]
    clear hs
    go_enter Try.func35, Try.ntmps35
    go_wp2_with (go_at_call 40; refine (spec_l02Finite_c _ B A n cap xs hl (by omega) hx).mono ?_; rintro e w' ⟨rfl, q, rfl⟩)
    go_ret
    exact ⟨rfl, _, rfl⟩
  · have hs : softB xs = false := by unfold softB; rw [hl, decide_eq_false h, Bool.false_and]
    rw [hs]
    clear hs
    go_enter Try.func35, Try.ntmps35
    go_wp2
    go_ret
    exact ⟨rfl, 0, rfl⟩


end Go.Proofs.Ytopeidmafalklaa


namespace Go.Proofs.Ytopeidmafalklaa
open Go.RowKit

/-- the word's rung is below that of 2 ^ a -/
def Low (a : Nat) (x : Nat) : Prop := x % 2147483648 < (a + 127) * 8388608

theorem Low.mono {a b x : Nat} (h : Low a x) (hab : a ≤ b) : Low b x := by
  unfold Low at *
  exact Nat.lt_of_lt_of_le h (Nat.mul_le_mul_right _ (by omega))

theorem cutE_le (neg : Bool) (n drop t : Nat) (h : n < 2 ^ (drop + t)) : Ieee.Toward.even.cut neg n drop ≤ 2 ^ t := by
  unfold Ieee.Toward.cut
  dsimp only
  rw [Nat.shiftLeft_eq, Nat.one_mul]
  have hm : ∀ b : Bool, b.toNat ≤ 1 := by intro b; cases b <;> decide
  have hp : 0 < 2 ^ t := Nat.two_pow_pos _
  by_cases hd : drop ≤ n.log2 + 2
  · rw [Nat.min_eq_left hd]
    have h1 : n / 2 ^ drop < 2 ^ t := Nat.div_lt_of_lt_mul (by rw [← Nat.pow_add]; exact h)
    have := hm (decide (2 ^ drop < 2 * (n % 2 ^ drop)) || (2 ^ drop == 2 * (n % 2 ^ drop) && n / 2 ^ drop % 2 == 1))
    omega
  · rw [Nat.min_eq_right (by omega)]
    have h1 : n < 2 ^ (n.log2 + 2) := Nat.lt_of_lt_of_le Nat.lt_log2_self (Nat.pow_le_pow_right (by omega) (by omega))
    have h2 : n / 2 ^ (n.log2 + 2) = 0 := Nat.div_eq_of_lt h1
    rw [h2]
    have := hm (decide (2 ^ (n.log2 + 2) < 2 * (n % 2 ^ (n.log2 + 2))) || (2 ^ (n.log2 + 2) == 2 * (n % 2 ^ (n.log2 + 2)) && 0 % 2 == 1))
    omega

theorem nearest_low (neg : Bool) (mag : Nat) (place : Int) (e : Nat) (h : mag ≠ 0 → place + (mag.log2 : Int) < e) : Low (e + 1) (Ieee.single.nearest neg mag place) := by
  unfold Low Ieee.Format.nearest
  split
  · rw [show (2147483648 : Nat) = Ieee.single.signWeight from sw32.symm, word_mod _ _ _ (Nat.two_pow_pos _)]
    omega
  · rename_i h0
    have h1 := h h0
    have hil : Ieee.single.infRung < Ieee.single.signWeight := FloatKind.f32.format.infRung_lt
    dsimp only
    rw [show (2147483648 : Nat) = Ieee.single.signWeight from sw32.symm, word_mod _ _ _ (Nat.lt_of_le_of_lt (Nat.min_le_right ..) hil)]
    rw [bi32]
    have el : Ieee.single.leastPlace = -149 := by decide
    have ef : (Ieee.single.fractionBits : Int) = 23 := rfl
    rw [el, ef]
    obtain ⟨last, hlast⟩ : ∃ last, max (place + (mag.log2 : Int) - 23) (-149) = last := ⟨_, rfl⟩
    rw [hlast]
    have hmag : mag < 2 ^ (mag.log2 + 1) := Nat.lt_log2_self
    have hk : Ieee.Toward.even.cut neg (mag <<< (place - last).toNat) (last - place).toNat ≤ 2 ^ 24 := by
      apply cutE_le
      rw [Nat.shiftLeft_eq]
      have h2 : mag * 2 ^ (place - last).toNat < 2 ^ (mag.log2 + 1) * 2 ^ (place - last).toNat := Nat.mul_lt_mul_of_pos_right hmag (Nat.two_pow_pos _)
      rw [← Nat.pow_add] at h2
      exact Nat.lt_of_lt_of_le h2 (Nat.pow_le_pow_right (by omega) (by omega))
    have hr : (last - -149).toNat ≤ e + 125 := by omega
    have h3 : (last - -149).toNat * 8388608 ≤ (e + 125) * 8388608 := Nat.mul_le_mul_right _ hr
    rw [show (2 : Nat) ^ 24 = 16777216 from by decide] at hk
    obtain ⟨kept, hkept⟩ : ∃ kept, Ieee.Toward.even.cut neg (mag <<< (place - last).toNat) (last - place).toNat = kept := ⟨_, rfl⟩
    rw [hkept] at hk ⊢
    obtain ⟨q, hq⟩ : ∃ q, (last - -149).toNat = q := ⟨_, rfl⟩
    rw [hq] at h3 ⊢
    obtain ⟨top, htop⟩ : ∃ top, Ieee.single.infRung = top := ⟨_, rfl⟩
    rw [htop]
    obtain ⟨big, hbig⟩ : ∃ big, q * 8388608 = big := ⟨_, rfl⟩
    rw [hbig] at h3 ⊢
    have h5 : min (big + kept) top ≤ big + kept := Nat.min_le_left _ _
    omega

theorem log2_lt_of {m k : Nat} (h0 : m ≠ 0) (h : m < 2 ^ k) : m.log2 < k := (Nat.log2_lt h0).2 h

theorem read_low {a x : Nat} (ha : a ≤ 128) (h : Low a x) : ∃ s m i, Ieee.single.read x = .number s m i ∧ (m ≠ 0 → i + (m.log2 : Int) < a) := by
  unfold Low at h
  unfold Ieee.Format.read
  dsimp only
  rw [sw32, bi32, ir32]
  have el : Ieee.single.leastPlace = -149 := by decide
  rw [el]
  split
  · rename_i h1
    refine ⟨_, _, _, rfl, fun h0 => ?_⟩
    have := log2_lt_of (k := 23) h0 (by simpa using h1)
    omega
  · rename_i h1
    have h2 : x % 2147483648 < 2139095040 := by
      have : (a + 127) * 8388608 ≤ 255 * 8388608 := Nat.mul_le_mul_right _ (by omega)
      omega
    rw [if_pos h2]
    refine ⟨_, _, _, rfl, fun h0 => ?_⟩
    have h3 := log2_lt_of (k := 24) h0 (by
      have := Nat.mod_lt (x % 2147483648) (show 0 < 8388608 by decide)
      have : (2 : Nat) ^ 24 = 16777216 := by decide
      omega)
    have h4 : x % 2147483648 / 8388608 < a + 127 := Nat.div_lt_of_lt_mul (by rw [Nat.mul_comm]; exact h)
    have h5 : 1 ≤ x % 2147483648 / 8388608 := by omega
    omega

theorem prod_low {a b x y : Nat} (ha : a ≤ 128) (hb : b ≤ 128) (hx : Low a x) (hy : Low b y) : ∃ r, floatBits .mul .f32 x y = some r ∧ Low (a + b + 1) r := by
  obtain ⟨s, m, i, e1, h1⟩ := read_low ha hx
  obtain ⟨t, n, j, e2, h2⟩ := read_low hb hy
  refine ⟨Ieee.single.nearest (s ^^ t) (m * n) (i + j), ?_, ?_⟩
  · show (((Ieee.single.read x).product (Ieee.single.read y)).map Ieee.single.write) = _
    rw [e1, e2]
    rfl
  · refine nearest_low _ _ _ _ fun h0 => ?_
    have hm : m ≠ 0 := fun h => h0 (by rw [h, Nat.zero_mul])
    have hn : n ≠ 0 := fun h => h0 (by rw [h, Nat.mul_zero])
    have h3 := h1 hm
    have h4 := h2 hn
    have h5 : m * n < 2 ^ (m.log2 + n.log2 + 2) := by
      have h6 : m < 2 ^ (m.log2 + 1) := Nat.lt_log2_self
      have h7 : n < 2 ^ (n.log2 + 1) := Nat.lt_log2_self
      calc m * n < 2 ^ (m.log2 + 1) * 2 ^ (n.log2 + 1) := Nat.mul_lt_mul_of_lt_of_lt h6 h7
        _ = 2 ^ (m.log2 + n.log2 + 2) := by rw [← Nat.pow_add]; congr 1; omega
    have h8 := log2_lt_of h0 h5
    omega

theorem signed_abs (s : Bool) (m k : Nat) : (Ieee.signed s m k).natAbs = m * 2 ^ k := by
  unfold Ieee.signed
  rw [Nat.shiftLeft_eq]
  split <;> omega

theorem sum_low_aux {a b : Nat} {s t : Bool} {m n : Nat} {i j : Int} (h1 : m ≠ 0 → i + (m.log2 : Int) < a) (h2 : n ≠ 0 → j + (n.log2 : Int) < b) :
    ∃ r, ((Ieee.Datum.sum (.number s m i) (.number t n j)).map Ieee.single.write) = some r ∧ Low (max a b + 2) r := by
  refine ⟨_, rfl, ?_⟩
  refine nearest_low _ _ _ (max a b + 1) fun h0 => ?_
  obtain ⟨base, hbase⟩ : ∃ base, min i j = base := ⟨_, rfl⟩
  rw [hbase] at h0 ⊢
  have g : ∀ (u : Bool) (q : Nat) (l : Int) (c : Nat), (q ≠ 0 → l + (q.log2 : Int) < c) → base ≤ l → c ≤ max a b → (Ieee.signed u q (l - base).toNat).natAbs < 2 ^ ((max a b : Nat) - base).toNat ∧ (q ≠ 0 → base < (max a b : Nat)) := by
    intro u q l c hq hl hc
    rw [signed_abs]
    by_cases hq0 : q = 0
    · subst hq0
      exact ⟨by rw [Nat.zero_mul]; exact Nat.two_pow_pos _, fun h => absurd rfl h⟩
    · have h3 := hq hq0
      refine ⟨?_, fun _ => by omega⟩
      have h4 : q < 2 ^ (q.log2 + 1) := Nat.lt_log2_self
      refine Nat.lt_of_lt_of_le (Nat.mul_lt_mul_of_pos_right h4 (Nat.two_pow_pos _)) ?_
      rw [← Nat.pow_add]
      exact Nat.pow_le_pow_right (by omega) (by omega)
  have g1 := g s m i a h1 (by omega) (by omega)
  have g2 := g t n j b h2 (by omega) (by omega)
  have hlt : base < (max a b : Nat) := by
    by_cases hm : m = 0
    · by_cases hn : n = 0
      · subst hm hn
        exfalso
        apply h0
        have e1 : (Ieee.signed s 0 (i - base).toNat).natAbs = 0 := by rw [signed_abs]; exact Nat.zero_mul _
        have e2 : (Ieee.signed t 0 (j - base).toNat).natAbs = 0 := by rw [signed_abs]; exact Nat.zero_mul _
        omega
      · exact g2.2 hn
    · exact g1.2 hm
  have h5 : (Ieee.signed s m (i - base).toNat + Ieee.signed t n (j - base).toNat).natAbs < 2 ^ ((max a b : Nat) - base).toNat + 2 ^ ((max a b : Nat) - base).toNat := by
    have := Int.natAbs_add_le (Ieee.signed s m (i - base).toNat) (Ieee.signed t n (j - base).toNat)
    omega
  have h6 : (Ieee.signed s m (i - base).toNat + Ieee.signed t n (j - base).toNat).natAbs < 2 ^ (((max a b : Nat) - base).toNat + 1) := by
    rw [Nat.pow_succ]
    omega
  have h7 := log2_lt_of h0 h6
  omega

theorem add_low {a b x y : Nat} (ha : a ≤ 128) (hb : b ≤ 128) (hx : Low a x) (hy : Low b y) : ∃ r, floatBits .add .f32 x y = some r ∧ Low (max a b + 2) r := by
  obtain ⟨s, m, i, e1, h1⟩ := read_low ha hx
  obtain ⟨t, n, j, e2, h2⟩ := read_low hb hy
  obtain ⟨r, h3, h4⟩ := sum_low_aux (s := s) (t := t) h1 h2
  refine ⟨r, ?_, h4⟩
  show (((Ieee.single.read x).sum (Ieee.single.read y)).map Ieee.single.write) = _
  rw [e1, e2]
  exact h3

theorem sub_low {a b x y : Nat} (ha : a ≤ 128) (hb : b ≤ 128) (hx : Low a x) (hy : Low b y) : ∃ r, floatBits .sub .f32 x y = some r ∧ Low (max a b + 2) r := by
  obtain ⟨s, m, i, e1, h1⟩ := read_low ha hx
  obtain ⟨t, n, j, e2, h2⟩ := read_low hb hy
  obtain ⟨r, h3, h4⟩ := sum_low_aux (s := s) (t := !t) h1 h2
  refine ⟨r, ?_, h4⟩
  show (((Ieee.single.read x).sum (Ieee.single.read y).opposite).map Ieee.single.write) = _
  rw [e1, e2]
  exact h3

theorem low_nn {a x : Nat} (ha : a ≤ 128) (h : Low a x) : nanB .f32 x = false := by
  obtain ⟨s, m, i, e1, _⟩ := read_low ha h
  show (Ieee.single.read x).isNaN = false
  rw [e1]
  rfl

/-- such a word stands for a number -/
theorem low_fin {a x : Nat} (ha : a ≤ 128) (h : Low a x) : finB (fl .f32 x) = true := by
  obtain ⟨s, m, i, e1, _⟩ := read_low ha h
  have hs : floatBits .sub .f32 x x = some 0 := by
    show (((Ieee.single.read x).sum (Ieee.single.read x).opposite).map Ieee.single.write) = _
    rw [e1]
    have e2 : Ieee.signed s m (i - i).toNat + Ieee.signed (!s) m (i - i).toNat = 0 := by
      unfold Ieee.signed
      cases s <;> simp <;> omega
    simp only [Ieee.Datum.opposite, Ieee.Datum.sum, Int.min_self, e2, Option.map_some]
    have e3 : ∀ i : Int, Ieee.single.write (Ieee.Datum.number false 0 i) = 0 := fun i => by
      show Ieee.single.nearest false 0 i = 0
      unfold Ieee.Format.nearest
      rw [if_pos rfl]
      rfl
    cases s <;> exact congrArg some (e3 i)
  unfold finB
  rw [fl_nn (low_nn ha h)]
  have e3 : fop .sub .f32 (some x) (some x) = some 0 := hs
  rw [e3]
  decide

/-- one step of a loss's polarization -/
def vop (op : BinOp) (x y : Nat) : Nat := (floatBits op .f32 x y).getD 0
theorem vop_some {op : BinOp} {x y r : Nat} (h : floatBits op .f32 x y = some r) : floatBits op .f32 x y = some (vop op x y) := by unfold vop; rw [h]; rfl
theorem fres_vop {op : BinOp} {x y r : Nat} (h : floatBits op .f32 x y = some r) (t : Tape) (d : Nat) : fres op .f32 x y t d = vop op x y := by unfold vop fres; rw [h]; rfl

theorem step_low {a z : Nat} (h1 : 1 ≤ a) (ha : a ≤ 62) (hz : Low a z) :
    (∃ r, floatBits .add .f32 z z = some r) ∧ (∃ r, floatBits .mul .f32 z z = some r) ∧ (∃ r, floatBits .sub .f32 (vop .add z z) (vop .mul z z) = some r) ∧ Low (2 * a + 3) (vop .sub (vop .add z z) (vop .mul z z)) ∧ Low (2 * a + 3) (vop .mul z z) := by
  obtain ⟨s, hs, ls⟩ := add_low (by omega) (by omega) hz hz
  obtain ⟨m, hm, lm⟩ := prod_low (by omega) (by omega) hz hz
  have es : vop .add z z = s := by unfold vop; rw [hs]; rfl
  have em : vop .mul z z = m := by unfold vop; rw [hm]; rfl
  rw [es, em]
  obtain ⟨d, hd, ld⟩ := sub_low (by omega) (by omega) ls lm
  have ed : vop .sub s m = d := by unfold vop; rw [hd]; rfl
  rw [ed]
  exact ⟨⟨_, hs⟩, ⟨_, hm⟩, ⟨_, hd⟩, ld.mono (by omega), lm.mono (by omega)⟩

end Go.Proofs.Ytopeidmafalklaa
