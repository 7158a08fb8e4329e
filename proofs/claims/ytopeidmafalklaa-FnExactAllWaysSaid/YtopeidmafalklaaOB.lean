/-
  Plain: blocks of cells in a world.
  Conditions: none.
-/
import Derived.Test.YtopeidmafalklaaH
import Derived.Lib.SlBytesConst
import Derived.RangeFuncBox
namespace Go.Proofs.Ytopeidmafalklaa
open Go.RowKit

/-- a block of cells -/
def Obj (W : World) (B : Nat) (t : TypeId) (cs : Array Value) : Prop := W.heap[B]? = some (.cells cs t (0, 0))
theorem Obj.lt {W : World} {B : Nat} {t : TypeId} {cs : Array Value} (h : Obj W B t cs) : B < W.heap.size := (Array.getElem?_eq_some_iff.1 h).1
theorem Obj.cell {W : World} {B : Nat} {t : TypeId} {cs : Array Value} (h : Obj W B t cs) (o : Nat) : W.cell? ⟨B, o, none⟩ = cs[o]? := cell_of_row W B o cs t (0, 0) h
theorem Obj.frozen {W : World} {B : Nat} {t : TypeId} {cs : Array Value} (h : Obj W B t cs) (o : Nat) : W.frozen? ⟨B, o, none⟩ = false := by simp [World.frozen?, show W.heap[B]? = _ from h]
theorem Obj.new (W : World) (t : TypeId) (cs : Array Value) : Obj (W.alloc (.cells cs t)) W.heap.size t cs := heap_alloc_new W _
theorem Obj.kept {W W' : World} {row : Option Nat} {B : Nat} {t : TypeId} {cs : Array Value} (h : Obj W B t cs) (hg : W.grownBy W' row) (hne : some B ≠ row) : Obj W' B t cs := (hg.block B h.lt hne).trans h
theorem Obj.alloc {W : World} {B : Nat} {t : TypeId} {cs : Array Value} (h : Obj W B t cs) (o : Go.Obj) : Obj (W.alloc o) B t cs := h.kept (World.grownBy_alloc W o none) (by simp)
theorem Obj.below {W W' : World} {B D : Nat} {t : TypeId} {cs : Array Value} (h : Obj W B t cs) (hb : Below D W W') (hD : B < D) : Obj W' B t cs := (hb.block B hD).trans h
theorem Obj.set {W : World} {B : Nat} {t : TypeId} {cs : Array Value} (h : Obj W B t cs) (o : Nat) (v : Value) : Obj (W.setCell ⟨B, o, none⟩ v) B t (cs.setIfInBounds o v) := by
  obtain ⟨hlt, hk⟩ := Array.getElem?_eq_some_iff.1 h
  show (W.heap.modify B _)[B]? = _
  rw [Array.getElem?_eq_getElem (by rw [Array.size_modify]; exact hlt), Array.getElem_modify_self, hk]
  rfl
theorem grownBy_set (W : World) (b o : Nat) (v : Value) : W.grownBy (W.setCell ⟨b, o, none⟩ v) (some b) :=
  ⟨rfl, rfl, rfl, (KeepsWalks.setCell W _ v).size, fun k _ hk => Below.heap_setCell _ _ _ k (fun e => hk (by rw [e]))⟩
theorem Obj.two {W : World} {B : Nat} {t : TypeId} {a b : Value} (h : Obj W B t #[a, b]) : (W.cell? ⟨B, 0, none⟩ = some a ∧ W.cell? ⟨B, 1, none⟩ = some b) ∧ (W.frozen? ⟨B, 0, none⟩ = false ∧ W.frozen? ⟨B, 1, none⟩ = false) :=
  ⟨⟨h.cell 0, h.cell 1⟩, h.frozen 0, h.frozen 1⟩
theorem below_put {D : Nat} {w W : World} (h : Below D w W) {b : Nat} (hb : D ≤ b) (o : Nat) (v : Value) : Below D w (W.setCell ⟨b, o, none⟩ v) := Below.setCell h (by simpa using hb) _
theorem Obj.apart {w w' : World} {B : Nat} {t : TypeId} {cs : Array Value} {u : Value} (h : Obj w B t cs) (hg : w.grownBy w' u.ownBlock) {c d : Nat} (hu : In u c d) (hs : B < c ∨ d ≤ B) : Obj w' B t cs :=
  h.kept hg (fun he => by have := hu B he.symm; omega)
theorem Obj.drew {W : World} {B : Nat} {t : TypeId} {cs : Array Value} (h : Obj W B t cs) : Obj W.drew B t cs := h
theorem Obj.far {W : World} {B b : Nat} {t : TypeId} {cs : Array Value} (h : Obj W B t cs) (hne : B ≠ b) (o : Nat) (v : Value) : Obj (W.setCell ⟨b, o, none⟩ v) B t cs := h.kept (grownBy_set W b o v) (by simpa using hne)
/-- a row of another type lies elsewhere -/
theorem Obj.not_row {W : World} {B : Nat} {t e : TypeId} {cs : Array Value} (h : Obj W B t cs) (hte : t ≠ e) {base size k : Nat} {v : Value} {xs : List Value} (hr : W.ownsRow base e size v k xs) : some B ≠ v.ownBlock := by
  rcases hr.2 with ⟨rfl, _⟩ | ⟨g, cap, cur, rfl, _, hgb, _⟩
  · simp [Value.ownBlock]
  · intro e'
    obtain rfl : B = g := by simpa [Value.ownBlock] using e'
    have := (show W.heap[B]? = _ from h).symm.trans hgb
    simp at this
    exact hte this.2

end Go.Proofs.Ytopeidmafalklaa
