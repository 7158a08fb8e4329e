/-
  Contracts: logarithms of sums that may not be there: joined and added to, both programs, up to the bits of a NaN.
  Conditions: none.
-/
import Derived.Test.YtopeidmafalklaaGW
import Derived.Test.YtopeidmafalklaaOB
import Derived.Deep.RegionHeld3
namespace Go.Proofs.Ytopeidmafalklaa
open Ieee Go.RowKit

theorem read_infS {x : Nat} (h : absF x = 2139095040) : single.read x = .infinity (sgnF x) := by
  unfold absF at h
  unfold Format.read
  simp only [sw32, bi32, ir32]
  rw [if_neg (by omega), if_neg (by omega), if_pos h]
  rfl
theorem nn_abs {x : Nat} (h : nanB .f32 x = false) : absF x < 2139095040 ∨ absF x = 2139095040 := by
  rw [nanB_eq, decide_eq_false_iff_not] at h
  have h2 : ¬ Ieee.single.infRung < x % Ieee.single.signWeight := h
  rw [ir32, sw32] at h2
  unfold absF
  omega
theorem minf_is : single.write (.infinity true) = 4286578688 := by decide
theorem bits_ltF {op : BinOp} {x y r : Nat} (h : floatBits op .f32 x y = some r) : r < 4294967296 := wf32.1 (floatBits_wf h)
theorem fin_gap {d : Nat} (hlt : d < 4294967296) (hn : nanB .f32 d = false) (h : d = 0 ∨ sgnF d = true) : Gap d := by
  rcases nn_abs hn with q | q
  · exact .inr (.inl ⟨q, h⟩)
  · refine .inr (.inr ?_)
    rcases h with rfl | h
    · exact absurd q (by decide)
    · unfold absF at q
      unfold sgnF at h
      have h2 : d / 2147483648 % 2 = 1 := by simpa using h
      omega
theorem gap_le {lo hi d : Nat} (hl : nanB .f32 lo = false) (hh : nanB .f32 hi = false) (h : single.order lo hi ≠ some .gt) (hd : floatBits .sub .f32 lo hi = some d) : Gap d := by
  have hdn : nanB .f32 d = false := floatBits_nn hd
  have hlt := bits_ltF hd
  have hd' : (((single.read lo).sum (single.read hi).opposite).map single.write) = some d := hd
  have ho : (single.read lo).order (single.read hi) ≠ some .gt := h
  rcases nn_abs hl with q1 | q1 <;> rcases nn_abs hh with q2 | q2
  · have hv : valF lo ≤ valF hi := by
      rw [order_valF q1 q2, cmp_cases] at h
      by_cases a : valF lo < valF hi
      · omega
      · rw [if_neg a] at h
        by_cases b : valF lo = valF hi
        · omega
        · rw [if_neg b] at h; exact absurd rfl h
    obtain ⟨d2, e1, e2⟩ := gap_fin q1 q2 hv
    rw [hd] at e1
    cases e1
    exact fin_gap hlt hdn e2
  · rw [readF q1, read_infS q2] at hd' ho
    cases hs : sgnF hi with
    | true => rw [hs] at ho; exact absurd rfl ho
    | false =>
      rw [hs] at hd'
      have e : single.write (.infinity true) = d := by simpa [Datum.opposite, Datum.sum] using hd'
      rw [minf_is] at e
      exact .inr (.inr e.symm)
  · rw [readF q2, read_infS q1] at hd' ho
    cases hs : sgnF lo with
    | false => rw [hs] at ho; exact absurd rfl ho
    | true =>
      rw [hs] at hd'
      have e : single.write (.infinity true) = d := by simpa [Datum.opposite, Datum.sum] using hd'
      rw [minf_is] at e
      exact .inr (.inr e.symm)
  · rw [read_infS q1, read_infS q2] at hd' ho
    cases hs : sgnF lo <;> cases ht : sgnF hi <;> rw [hs, ht] at hd' ho
    · simp [Datum.opposite, Datum.sum] at hd'
    · exact absurd rfl ho
    · have e : single.write (.infinity true) = d := by simpa [Datum.opposite, Datum.sum] using hd'
      rw [minf_is] at e
      exact .inr (.inr e.symm)
    · simp [Datum.opposite, Datum.sum] at hd'
theorem nan_fres {op : BinOp} {k : FloatKind} {x y : Nat} (h : floatBits op k x y = none) (t : Tape) (d : Nat) : nanB k (fres op k x y t d) = true := by
  have e : fres op k x y t d = (Question.nanBits k x y).cut (t d (.nanBits k x y)) := by simp [fres, h]
  rw [e]
  exact nanBits_nan ..
/-- the lesser less the greater is a gap -/
theorem gap_fres {lo hi : Nat} (h : FloatKind.f32.format.order lo hi ≠ some .gt) (t : Tape) (d : Nat) : Gap (fres .sub .f32 lo hi t d) := by
  cases e : floatBits .sub .f32 lo hi with
  | none => exact .inl (nan_fres e t d)
  | some r =>
    rw [fres_one e]
    have hl : nanB .f32 lo = false := by
      cases hn : nanB .f32 lo with
      | false => rfl
      | true => rw [floatBits_nan (.inl hn)] at e; cases e
    have hh : nanB .f32 hi = false := by
      cases hn : nanB .f32 hi with
      | false => rfl
      | true => rw [floatBits_nan (.inr hn)] at e; cases e
    exact gap_le hl hh h e
/-- one more than the exponential of a gap is a NaN or between one and two -/
theorem sum_fres {d e : Nat} (hg : Gap d) (he : fl .f32 e = expO (fl .f32 d)) (t : Tape) (k : Nat) : Sum12 (fres .add .f32 1065353216 e t k) := by
  by_cases hn : nanB .f32 e = true
  · exact .inl (nan_fres (floatBits_nan (.inr hn)) t k)
  · rw [fl_nn (by simpa using hn)] at he
    have hd : ∃ r, expO (fl .f32 d) = some r ∧ r ≤ 1065353216 := by
      by_cases hnd : nanB .f32 d = true
      · rw [fl_nan hnd] at he; cases he
      · rw [fl_nn (by simpa using hnd)]
        refine expNum_some ?_
        rcases hg with q | ⟨_, q⟩ | q
        · exact absurd q hnd
        · exact q
        · subst q; exact .inr (by decide)
    obtain ⟨r, h1, h2⟩ := hd
    rw [h1] at he
    cases he
    obtain ⟨z, hz, z1, z2⟩ := add_one_12 h2
    rw [fres_one hz]
    exact .inr ⟨z1, z2⟩

/-- the join of two numbers: the greater, and what the gap adds -/
def joinV (hi lo : Option Nat) : Option Nat := fop .add .f32 hi (logO (fop .add .f32 (some 1065353216) (expO (fop .sub .f32 lo hi))))
def gtF (x y : Option Nat) : Bool := ford .f32 x y == some Ordering.gt
def joinO (x y : Option Nat) : Option Nat := if gtF y x then joinV y x else joinV x y
theorem joinV_none1 (x : Option Nat) : joinV none x = none := rfl
theorem joinV_none2 (x : Option Nat) : joinV x none = none := by
  unfold joinV
  rw [none_fop]
  show fop .add .f32 x (logO (fop .add .f32 (some 1065353216) none)) = none
  rw [fop_none]
  exact fop_none x
theorem one32 : fl .f32 1065353216 = some 1065353216 := by decide

/-! ### the greatest and the least of two -/
def mxF (x y : Nat) (t : Tape) (d : Nat) : Nat := match FloatKind.f32.format.order x y with
  | none => (Question.nanMinMax .f32 true x y).cut (t d (.nanMinMax .f32 true x y))
  | some .lt => y
  | some .gt => x
  | some .eq => if (FloatKind.f32.decode x).neg then y else x
def mnF (x y : Nat) (t : Tape) (d : Nat) : Nat := match FloatKind.f32.format.order x y with
  | none => (Question.nanMinMax .f32 false x y).cut (t d (.nanMinMax .f32 false x y))
  | some .lt => x
  | some .gt => y
  | some .eq => if (FloatKind.f32.decode x).neg then x else y
def mmd (x y : Nat) : Nat := match FloatKind.f32.format.order x y with | none => 1 | some _ => 0
theorem run_mxF {P : Program} (w : World) (ts : Array TypeId) (t : TypeId) (x y : Nat) : (Builtin.max_ ts t #[.float .f32 x, .float .f32 y]).run P w = .ok (.float .f32 (mxF x y w.tape w.drawn)) (w.drewN (mmd x y)) := by
  have hf : (Question.nanMinMax .f32 true x y).forced = false := rfl
  unfold mxF mmd
  cases h : FloatKind.f32.format.order x y with
  | none => simp [Builtin.max_, Builtin.max2, h, choose, Sem.run, hf]; rfl
  | some o => cases o <;> simp [Builtin.max_, Builtin.max2, h, World.drewN]
theorem run_mnF {P : Program} (w : World) (ts : Array TypeId) (t : TypeId) (x y : Nat) : (Builtin.min_ ts t #[.float .f32 x, .float .f32 y]).run P w = .ok (.float .f32 (mnF x y w.tape w.drawn)) (w.drewN (mmd x y)) := by
  have hf : (Question.nanMinMax .f32 false x y).forced = false := rfl
  unfold mnF mmd
  cases h : FloatKind.f32.format.order x y with
  | none => simp [Builtin.min_, Builtin.min2, h, choose, Sem.run, hf]; rfl
  | some o => cases o <;> simp [Builtin.min_, Builtin.min2, h, World.drewN]
theorem nanMM (b : Bool) (x y t : Nat) : nanB .f32 ((Question.nanMinMax .f32 b x y).cut t) = true := nanBits_nan .f32 x y t
theorem ord_swap {x y : Nat} : FloatKind.f32.format.order y x = (FloatKind.f32.format.order x y).map Ordering.swap := by
  show (single.read y).order (single.read x) = ((single.read x).order (single.read y)).map Ordering.swap
  have key : ∀ d e : Datum, e.order d = (d.order e).map Ordering.swap := by
    intro d e
    cases d <;> cases e <;> try rfl
    · rename_i s m i t n j
      unfold Datum.order
      simp only [Option.map_some, Int.min_comm j i]
      congr 1
      rw [cmp_cases, cmp_cases]
      split <;> split <;> (try split) <;> (try split) <;> (try omega) <;> rfl
    · rename_i s m i t; cases t <;> rfl
    · rename_i s t m i; cases s <;> rfl
    · rename_i s t; cases s <;> cases t <;> rfl
  exact key _ _
theorem zero_joins : joinV (some 0) (some 2147483648) = joinV (some 2147483648) (some 0) ∧ joinV (some 0) (some 0) = joinV (some 2147483648) (some 0) := by decide +kernel

theorem bits_congr {op : BinOp} {x x' y y' : Nat} (hx : single.read x = single.read x') (hy : single.read y = single.read y') : floatBits op .f32 x y = floatBits op .f32 x' y' := by
  have h1 : FloatKind.f32.format.read x = FloatKind.f32.format.read x' := hx
  have h2 : FloatKind.f32.format.read y = FloatKind.f32.format.read y' := hy
  unfold floatBits
  cases op <;> simp only [Format.add, Format.sub, Format.mul, Format.div, h1, h2]
theorem joinV_congr {x x' y y' : Nat} (hx : single.read x = single.read x') (hy : single.read y = single.read y') : joinV (some x) (some y) = joinV (some x') (some y') := by
  unfold joinV
  rw [fop_some, fop_some, bits_congr hy hx]
  cases logO (fop .add .f32 (some 1065353216) (expO (floatBits .sub .f32 y' x'))) with
  | none => rfl
  | some g => rw [fop_some, fop_some]; exact bits_congr hx rfl
theorem VF_nought : VF 0 = 0 := by decide
theorem read_zero {a : Nat} (h : absF a = 0) : single.read a = single.read (if sgnF a then 2147483648 else 0) := by
  rw [readF (by omega), h]
  cases sgnF a <;> rfl
theorem eq_join {a b : Nat} (h : FloatKind.f32.format.order a b = some .eq) : joinV (some b) (some a) = joinV (some a) (some b) := by
  have hl : nanB .f32 a = false := by
    cases hn : nanB .f32 a with
    | false => rfl
    | true => rw [order_nan _ _ _ hn] at h; cases h
  have hh : nanB .f32 b = false := by
    cases hn : nanB .f32 b with
    | false => rfl
    | true =>
      have h2 := ord_swap (x := a) (y := b)
      rw [order_nan _ _ _ hn, h] at h2
      cases h2
  have same : single.read a = single.read b → joinV (some b) (some a) = joinV (some a) (some b) := fun e => joinV_congr e.symm e
  have ho : (single.read a).order (single.read b) = some .eq := h
  rcases nn_abs hl with q1 | q1 <;> rcases nn_abs hh with q2 | q2
  · have hv : valF a = valF b := by
      have h3 : single.order a b = some .eq := h
      rw [order_valF q1 q2, cmp_cases] at h3
      by_cases c : valF a < valF b
      · rw [if_pos c] at h3; cases h3
      · rw [if_neg c] at h3
        by_cases e : valF a = valF b
        · exact e
        · rw [if_neg e] at h3; cases h3
    by_cases z1 : absF a = 0
    · by_cases z2 : absF b = 0
      · have r1 := read_zero z1
        have r2 := read_zero z2
        rw [joinV_congr r2 r1, joinV_congr r1 r2]
        obtain ⟨j1, j2⟩ := zero_joins
        cases sgnF a <;> cases sgnF b <;> simp only [if_true, if_false, Bool.false_eq_true]
        · exact j1.symm
        · exact j1
      · exfalso
        have := VF_lt (a := 0) (b := absF b) (by omega) q2
        rw [VF_nought] at this
        unfold valF at hv
        rw [z1, VF_nought] at hv
        generalize sgnF a = sa at hv
        generalize sgnF b = sb at hv
        cases sa <;> cases sb <;> simp at hv <;> omega
    · have p1 := VF_lt (a := 0) (b := absF a) (by omega) q1
      rw [VF_nought] at p1
      have hs : sgnF a = sgnF b ∧ VF (absF a) = VF (absF b) := by
        unfold valF at hv
        generalize sgnF a = sa at hv ⊢
        generalize sgnF b = sb at hv ⊢
        cases sa <;> cases sb <;> simp at hv <;> first | exact ⟨rfl, by omega⟩ | (exfalso; omega)
      have ha : absF a = absF b := by
        rcases Nat.lt_trichotomy (absF a) (absF b) with c | c | c
        · have := VF_lt c q2; omega
        · exact c
        · have := VF_lt c q1; omega
      exact same (by rw [readF q1, readF q2, ha, hs.1])
  · rw [readF q1, read_infS q2] at ho
    cases hs : sgnF b <;> rw [hs] at ho <;> cases ho
  · rw [readF q2, read_infS q1] at ho
    cases hs : sgnF a <;> rw [hs] at ho <;> cases ho
  · apply same
    rw [read_infS q1, read_infS q2] at ho ⊢
    cases hs : sgnF a <;> cases ht : sgnF b <;> rw [hs, ht] at ho <;> first | rfl | cases ho
theorem mm_join (a b : Nat) (t : Tape) (d : Nat) (t' : Tape) (d' : Nat) : joinV (fl .f32 (mxF a b t d)) (fl .f32 (mnF a b t' d')) = joinO (fl .f32 a) (fl .f32 b) ∧ FloatKind.f32.format.order (mnF a b t' d') (mxF a b t d) ≠ some .gt := by
  have hg : gtF (fl .f32 b) (fl .f32 a) = (FloatKind.f32.format.order b a == some .gt) := by rw [order_fl]; rfl
  have hsw := ord_swap (x := a) (y := b)
  unfold joinO
  rw [hg, hsw]
  cases h : FloatKind.f32.format.order a b with
  | none =>
    have e1 : nanB .f32 (mxF a b t d) = true := by unfold mxF; rw [h]; exact nanMM ..
    have e2 : nanB .f32 (mnF a b t' d') = true := by unfold mnF; rw [h]; exact nanMM ..
    rw [order_nan _ _ _ e2, fl_nan e1, fl_nan e2]
    refine ⟨?_, by simp⟩
    rw [if_neg (by simp), joinV_none1]
    by_cases hn : nanB .f32 a = true
    · rw [fl_nan hn, joinV_none1]
    · by_cases hm : nanB .f32 b = true
      · rw [fl_nan hm, joinV_none2]
      · exfalso
        have hn' : nanB .f32 a = false := by simpa using hn
        have hm' : nanB .f32 b = false := by simpa using hm
        have ho : (single.read a).order (single.read b) = none := h
        rcases nn_abs hn' with q1 | q1 <;> rcases nn_abs hm' with q2 | q2
        · rw [readF q1, readF q2] at ho; cases ho
        · rw [readF q1, read_infS q2] at ho; cases ho
        · rw [read_infS q1, readF q2] at ho; cases ho
        · rw [read_infS q1, read_infS q2] at ho; cases ho
  | some o =>
    have hl : nanB .f32 a = false := by
      cases hn : nanB .f32 a with
      | false => rfl
      | true => rw [order_nan _ _ _ hn] at h; cases h
    have hh : nanB .f32 b = false := by
      cases hn : nanB .f32 b with
      | false => rfl
      | true => rw [order_nan _ _ _ hn, h] at hsw; cases hsw
    rw [h] at hsw
    rw [fl_nn hl, fl_nn hh]
    cases o with
    | lt =>
      have e1 : mxF a b t d = b := by unfold mxF; rw [h]
      have e2 : mnF a b t' d' = a := by unfold mnF; rw [h]
      rw [e1, e2, fl_nn hl, fl_nn hh, h]
      exact ⟨(if_pos rfl).symm, by simp⟩
    | gt =>
      have e1 : mxF a b t d = a := by unfold mxF; rw [h]
      have e2 : mnF a b t' d' = b := by unfold mnF; rw [h]
      rw [e1, e2, fl_nn hl, fl_nn hh, hsw]
      exact ⟨(if_neg (by decide)).symm, by decide⟩
    | eq =>
      by_cases hneg : (FloatKind.f32.decode a).neg = true
      · have e1 : mxF a b t d = b := by unfold mxF; rw [h]; exact if_pos hneg
        have e2 : mnF a b t' d' = a := by unfold mnF; rw [h]; exact if_pos hneg
        rw [e1, e2, fl_nn hl, fl_nn hh, h]
        exact ⟨(eq_join h).trans (if_neg (by decide)).symm, by simp⟩
      · have e1 : mxF a b t d = a := by unfold mxF; rw [h]; exact if_neg hneg
        have e2 : mnF a b t' d' = b := by unfold mnF; rw [h]; exact if_neg hneg
        rw [e1, e2, fl_nn hl, fl_nn hh, hsw]
        exact ⟨(if_neg (by decide)).symm, by decide⟩

/-- a logarithm of a sum that may not be there -/
def stO (h : Bool) (x : Nat) : Option (Option Nat) := if h then some (fl .f32 x) else none
def joinS : Option (Option Nat) → Option (Option Nat) → Option (Option Nat)
  | some a, some b => some (joinO a b)
  | some a, none => some a
  | none, b => b
def plusS (a : Option (Option Nat)) (x : Option Nat) : Option (Option Nat) := a.map fun y => fop .add .f32 y x

end Go.Proofs.Ytopeidmafalklaa
