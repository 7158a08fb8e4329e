/-
  Plain: blocks that hold a row.
  Conditions: none.
-/
import Derived.Test.YtopeidmafalklaaOB
namespace Go.Proofs.Ytopeidmafalklaa
open Go.RowKit

/-- a block that holds a row -/
def Row (W : World) (b : Nat) (e : TypeId) (l : List Value) : Prop := Obj W b e l.toArray
theorem Row.new (W : World) (e : TypeId) (z : Value) (n : Nat) : Row (W.alloc (.cells (zeroRow z n) e)) W.heap.size e (List.replicate n z) := Obj.new W e _
theorem Row.get {W : World} {b : Nat} {e : TypeId} {l : List Value} (h : Row W b e l) {k : Nat} (hk : k < l.length) : W.cell? ⟨b, k, none⟩ = some l[k] := by
  have := Obj.cell h k
  rw [this]
  simp [hk]
theorem Row.frz {W : World} {b : Nat} {e : TypeId} {l : List Value} (h : Row W b e l) (k : Nat) : W.frozen? ⟨b, k, none⟩ = false := Obj.frozen h k
theorem Row.put {W : World} {b : Nat} {e : TypeId} {l : List Value} (h : Row W b e l) (k : Nat) (v : Value) : Row (W.setCell ⟨b, k, none⟩ v) b e (l.set k v) := by
  have := Obj.set h k v
  rw [List.setIfInBounds_toArray] at this
  exact this
theorem Row.far {W : World} {b c : Nat} {e : TypeId} {l : List Value} (h : Row W b e l) (hne : b ≠ c) (k : Nat) (v : Value) : Row (W.setCell ⟨c, k, none⟩ v) b e l := Obj.far h hne k v
theorem Row.alloc {W : World} {b : Nat} {e : TypeId} {l : List Value} (h : Row W b e l) (o : Go.Obj) : Row (W.alloc o) b e l := Obj.alloc h o
theorem Row.below {W W' : World} {b D : Nat} {e : TypeId} {l : List Value} (h : Row W b e l) (hb : Below D W W') (hD : b < D) : Row W' b e l := Obj.below h hb hD
theorem Row.drewN {W : World} {b : Nat} {e : TypeId} {l : List Value} (h : Row W b e l) (k : Nat) : Row (W.drewN k) b e l := h
theorem Row.own {W : World} {b base : Nat} {e : TypeId} {l : List Value} (h : Row W b e l) (hb : base ≤ b) (hl : l.length ≤ 1099511627776) : Ow W base e (.slice (some ⟨b, 0, none⟩) l.length l.length) l := by
  refine ⟨by omega, .inr ⟨b, l.length, l.toArray, rfl, hb, h, Nat.le_refl _, by unfold maxLen; omega, by simp, by simp⟩⟩
theorem Row.kept {W W' : World} {b base n size : Nat} {e e2 : TypeId} {l xs : List Value} {v : Value} (h : Row W b e l) (hr : W.ownsRow base e2 size v n xs) (hne : e ≠ e2) (hg : W.grownBy W' v.ownBlock) : Row W' b e l :=
  Obj.kept h hg (Obj.not_row h hne hr)

end Go.Proofs.Ytopeidmafalklaa
