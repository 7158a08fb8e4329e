/-
  Contracts: finite numbers, and the library's searches.
  Conditions: slices are read in memory that is there.
-/
import Derived.Test.YtiifpfiibbkobaaR
namespace Go.Proofs.Ytiifpfiibbkobaa
open Go.RowKit

theorem fl0 : fl .f32 0 = some 0 := by decide

/-- a number that is neither an infinity nor a NaN -/
def finB (x : Option Nat) : Bool := ford .f32 (fop .sub .f32 x x) (some 0) == some Ordering.eq
theorem finB_eq (x : Nat) (t : Tape) (d : Nat) : (FloatKind.f32.format.order (fres .sub .f32 x x t d) 0 == some Ordering.eq) = finB (fl .f32 x) := by
  rw [order_fl, fl_fres, fl0]
  rfl



theorem impl_IsFinite_c (w : World) (x : Nat) : Calls Try.prog 16 #[.float .f32 x] w fun e w' => e = .returned (.bool (finB (fl .f32 x))) ∧ ∃ n, w' = w.drewN n := by
  go_enter Try.func16, Try.ntmps16
  go_wp2
  go_ret
  exact ⟨ret_bool (finB_eq _ _ _), _, rfl⟩



/-- the first place at which a test holds, or -1 -/
def idxB (p : Value → Bool) (l : List Value) : Int := match l.findIdx? p with | some i => i | none => -1
theorem idxB_some {p : Value → Bool} {l : List Value} {k : Nat} (hk : k < l.length) (hp : ∀ u ∈ l.take k, p u = false) (h : p l[k] = true) : idxB p l = k := by
  have : l.findIdx? p = some k := by
    rw [List.findIdx?_eq_some_iff_getElem]
    refine ⟨hk, h, fun j hj => ?_⟩
    have h1 := hp (l[j]'(by omega)) (by
      rw [List.mem_take_iff_getElem]
      exact ⟨j, by omega, rfl⟩)
    simp [h1]
  simp [idxB, this]
theorem idxB_none {p : Value → Bool} {l : List Value} (hp : ∀ u ∈ l, p u = false) : idxB p l = -1 := by
  have : l.findIdx? p = none := by
    rw [List.findIdx?_eq_none_iff]
    exact hp
  simp [idxB, this]
theorem idxB_any (p : Value → Bool) (l : List Value) : decide (idxB p l ≥ 0) = l.any p := by
  rcases h : l.findIdx? p with _ | i
  · have h1 := List.findIdx?_eq_none_iff.1 h
    have h2 : l.any p = false := by
      rw [← Bool.not_eq_true, List.any_eq_true]
      rintro ⟨x, hx, hp⟩
      rw [h1 x hx] at hp
      cases hp
    simp [idxB, h, h2]
  · have h1 := List.findIdx?_eq_some_iff_getElem.1 h
    have h2 : l.any p = true := List.any_eq_true.2 ⟨_, List.getElem_mem h1.1, h1.2.1⟩
    simp [idxB, h, h2]

/-- a function value that tests elements, quietly -/
def Tests (g : FuncId) (lb : Array Value) (p : Value → Bool) (w : World) (l : List Value) : Prop :=
  (∀ args w, (callFunc g args).run Try.prog w = .ok (.enter g args) w) ∧ ∀ u ∈ l, ∀ m, Calls Try.prog g (#[u] ++ lb) (w.drewN m) fun e w' => e = .returned (.bool (p u)) ∧ ∃ n, w' = (w.drewN m).drewN n




def notFin (u : Value) : Bool := match u with | .float _ x => !finB (fl .f32 x) | _ => false
theorem any_notFin (xs : List Nat) : (xs.map (Value.float .f32)).any notFin = !(xs.all fun x => finB (fl .f32 x)) := by
  rw [List.any_map, List.not_all_eq_any_not]
  rfl

def softB (xs : List Nat) : Bool := decide (xs.length ≤ 160) && xs.all fun x => finB (fl .f32 x)



end Go.Proofs.Ytiifpfiibbkobaa
