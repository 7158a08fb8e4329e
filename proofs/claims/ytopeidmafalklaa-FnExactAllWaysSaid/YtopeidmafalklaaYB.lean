/-
  Plain: blocks that hold logarithms of sums (a flag and a number for each state), and blocks that hold moves; where they stay.
  Conditions: none.
-/
import Derived.Test.YtopeidmafalklaaYA
import Derived.Test.YtopeidmafalklaaRW
import Derived.Test.YtopeidmafalklaaBW
namespace Go.Proofs.Ytopeidmafalklaa
open Go.RowKit Go.Shelf

/-- a block with a table of logarithms of sums -/
def SRow (e : TypeId) (W : World) (b S : Nat) (T : List St) : Prop :=
  (∃ cs : Array Value, Obj W b e cs ∧ cs.size = S * 2 ∧ ∀ s, s < S → ∃ h x, cs[s * 2]? = some (.bool h) ∧ cs[s * 2 + 1]? = some (.float .f32 x) ∧ stO h x = T.getD s none) ∧ T.length = S
theorem SRow.lt {e : TypeId} {W : World} {b S : Nat} {T : List St} (h : SRow e W b S T) : b < W.heap.size := h.1.choose_spec.1.lt
theorem SRow.cells {e : TypeId} {W : World} {b S : Nat} {T : List St} (h : SRow e W b S T) {s : Nat} (hs : s < S) :
    ∃ f x, W.cell? ⟨b, s * 2, none⟩ = some (.bool f) ∧ W.cell? ⟨b, s * 2 + 1, none⟩ = some (.float .f32 x) ∧ stO f x = T.getD s none := by
  obtain ⟨⟨cs, hO, _, hc⟩, _⟩ := h
  obtain ⟨f, x, h1, h2, h3⟩ := hc s hs
  exact ⟨f, x, (hO.cell _).trans h1, (hO.cell _).trans h2, h3⟩
theorem SRow.frz {e : TypeId} {W : World} {b S : Nat} {T : List St} (h : SRow e W b S T) (k : Nat) : W.frozen? ⟨b, k, none⟩ = false := by
  obtain ⟨⟨cs, hO, _⟩, _⟩ := h
  exact hO.frozen k
theorem SRow.below {e : TypeId} {W W' : World} {b D S : Nat} {T : List St} (h : SRow e W b S T) (hb : Below D W W') (hD : b < D) : SRow e W' b S T := by
  obtain ⟨⟨cs, hO, h2⟩, h3⟩ := h
  exact ⟨⟨cs, hO.below hb hD, h2⟩, h3⟩
theorem SRow.keep {e : TypeId} {W W' : World} {row : Option Nat} {b S : Nat} {T : List St} (h : SRow e W b S T) (hg : W.grownBy W' row) (hne : some b ≠ row) : SRow e W' b S T := by
  obtain ⟨⟨cs, hO, h2⟩, h3⟩ := h
  exact ⟨⟨cs, hO.kept hg hne, h2⟩, h3⟩
theorem SRow.kept {W W' : World} {b base n size : Nat} {e e2 : TypeId} {S : Nat} {T : List St} {xs : List Value} {v : Value} (h : SRow e W b S T) (hr : W.ownsRow base e2 size v n xs) (hne : e ≠ e2) (hg : W.grownBy W' v.ownBlock) : SRow e W' b S T := by
  obtain ⟨⟨cs, hO, h2⟩, h3⟩ := h
  exact ⟨⟨cs, hO.kept hg (Obj.not_row hO hne hr), h2⟩, h3⟩
theorem SRow.alloc {e : TypeId} {W : World} {b S : Nat} {T : List St} (h : SRow e W b S T) (o : Go.Obj) : SRow e (W.alloc o) b S T := by
  obtain ⟨⟨cs, hO, h2⟩, h3⟩ := h
  exact ⟨⟨cs, hO.alloc o, h2⟩, h3⟩
theorem SRow.drewN {e : TypeId} {W : World} {b S : Nat} {T : List St} (h : SRow e W b S T) (k : Nat) : SRow e (W.drewN k) b S T := h
theorem SRow.far {e : TypeId} {W : World} {b c S : Nat} {T : List St} (h : SRow e W b S T) (hne : b ≠ c) (k : Nat) (v : Value) : SRow e (W.setCell ⟨c, k, none⟩ v) b S T := by
  obtain ⟨⟨cs, hO, h2⟩, h3⟩ := h
  exact ⟨⟨cs, hO.far hne k v, h2⟩, h3⟩
theorem SRow.put {e : TypeId} {W : World} {b S : Nat} {T : List St} (h : SRow e W b S T) {to : Nat} (hto : to < S) (f : Bool) (v : Nat) (x : St) (hv : stO f v = x) :
    SRow e ((W.setCell ⟨b, to * 2, none⟩ (.bool f)).setCell ⟨b, to * 2 + 1, none⟩ (.float .f32 v)) b S (T.set to x) := by
  obtain ⟨⟨cs, hO, h2, h3⟩, h4⟩ := h
  refine ⟨⟨_, (hO.set _ _).set _ _, by simp [h2], fun i hi => ?_⟩, by rw [List.length_set]; exact h4⟩
  obtain ⟨f', x', k1, k2, k3⟩ := h3 i hi
  by_cases c : to = i
  · subst c
    refine ⟨f, v, ?_, ?_, ?_⟩
    · rw [Array.getElem?_setIfInBounds_ne (by omega), Array.getElem?_setIfInBounds_self_of_lt (by omega)]
    · rw [Array.getElem?_setIfInBounds_self_of_lt (by simp; omega)]
    · rw [hv]; simp [List.getD, h4, hto]
  · refine ⟨f', x', ?_, ?_, ?_⟩
    · rw [Array.getElem?_setIfInBounds_ne (by omega), Array.getElem?_setIfInBounds_ne (by omega)]; exact k1
    · rw [Array.getElem?_setIfInBounds_ne (by omega), Array.getElem?_setIfInBounds_ne (by omega)]; exact k2
    · rw [k3]; simp [List.getD, List.getElem?_set_ne c]
theorem sums_made {S s : Nat} (hs : s < S) : (madeCells #[Value.bool false, .float .f32 0] (S * 2))[s * 2]? = some (.bool false) ∧ (madeCells #[Value.bool false, .float .f32 0] (S * 2))[s * 2 + 1]? = some (.float .f32 0) := by
  unfold madeCells
  have e1 : (s * 2 + 1) % 2 = 1 := by omega
  refine ⟨?_, ?_⟩
  · simp [show s * 2 < S * 2 by omega]
  · simp [show s * 2 + 1 < S * 2 by omega, e1]
theorem SRow.new (e : TypeId) (W : World) (S : Nat) : SRow e (W.alloc (.cells (madeCells #[Value.bool false, .float .f32 0] (S * 2)) e)) W.heap.size S (noneR S) := by
  refine ⟨⟨_, Obj.new _ _ _, size_madeCells _ _, fun s hs => ?_⟩, List.length_replicate ..⟩
  obtain ⟨h1, h2⟩ := sums_made hs
  exact ⟨false, 0, h1, h2, by simp [noneR, List.getD, hs, stO]⟩
/-- the first is there (its number is nought already) -/
theorem SRow.start {e : TypeId} {W : World} {b S : Nat} (h : ∃ cs : Array Value, Obj W b e cs ∧ cs.size = S * 2 ∧ ∀ s, s < S → cs[s * 2]? = some (.bool false) ∧ cs[s * 2 + 1]? = some (.float .f32 0)) (hS : 1 ≤ S) : SRow e (W.setCell ⟨b, 0, none⟩ (.bool true)) b S (oneR S) := by
  obtain ⟨cs, hO, h2, h3⟩ := h
  refine ⟨⟨_, hO.set _ _, by simp [h2], fun i hi => ?_⟩, oneR_len S⟩
  obtain ⟨k1, k2⟩ := h3 i hi
  by_cases c : i = 0
  · subst c
    refine ⟨true, 0, ?_, ?_, ?_⟩
    · rw [Array.getElem?_setIfInBounds_self_of_lt (by omega)]
    · rw [Array.getElem?_setIfInBounds_ne (by omega)]; exact k2
    · simp [oneR, List.getD, hi, stO, fl0]
  · refine ⟨false, 0, ?_, ?_, ?_⟩
    · rw [Array.getElem?_setIfInBounds_ne (by omega)]; exact k1
    · rw [Array.getElem?_setIfInBounds_ne (by omega)]; exact k2
    · unfold oneR
      rw [List.getD, List.getElem?_set_ne (show 0 ≠ i by omega)]
      simp [hi, stO]
theorem sums_new (e : TypeId) (W : World) (S : Nat) : ∃ cs : Array Value, Obj (W.alloc (.cells (madeCells #[Value.bool false, .float .f32 0] (S * 2)) e)) W.heap.size e cs ∧ cs.size = S * 2 ∧ ∀ s, s < S → cs[s * 2]? = some (.bool false) ∧ cs[s * 2 + 1]? = some (.float .f32 0) :=
  ⟨_, Obj.new _ _ _, size_madeCells _ _, fun _ hs => sums_made hs⟩

theorem infoLikely : (Try.prog.info? 87).map (fun i => (i.zero, i.size, i.bytes)) = some (some (.agg #[.bool false, .float .f32 0]), 2, 8) := by kernel_rfl
theorem infoSum : (Try.prog.info? 71).map (fun i => (i.zero, i.size, i.bytes)) = some (some (.agg #[.bool false, .float .f32 0]), 2, 8) := by kernel_rfl
theorem infoMoves : (Try.prog.info? 94).map (fun i => (i.zero, i.size, i.bytes)) = some (some (.agg #[.bool false, .int .i64 0, .float .f32 0, .bool false, .int .i64 0, .float .f32 0]), 6, 48) := by kernel_rfl

end Go.Proofs.Ytopeidmafalklaa
