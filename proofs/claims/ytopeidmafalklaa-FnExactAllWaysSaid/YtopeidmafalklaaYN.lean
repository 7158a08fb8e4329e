/-
  Contract: a row of the call's own of tables.
  Conditions: as each theorem says.
-/
import Derived.Test.YtopeidmafalklaaYK
namespace Go.Proofs.Ytopeidmafalklaa
open Go.RowKit Go.Shelf

/-- a row of the call's own of tables -/
def AR2 (B0 S : Nat) (F : Nat → List St) (W : World) (v : Value) (bs : List Nat) : Prop :=
  Ow W B0 84 v (bs.map (rV S)) ∧ ∀ i, i < bs.length → SRow 87 W (bs.getD i 0) S (F i)
theorem AR2.below {B0 S : Nat} {F : Nat → List St} {W W' : World} {v : Value} {bs : List Nat} (h : AR2 B0 S F W v bs) (hb : Below W.heap.size W W') : AR2 B0 S F W' v bs :=
  ⟨own_below h.1 hb (Nat.le_refl _), fun i hi => (h.2 i hi).below hb (h.2 i hi).lt⟩
theorem AR2.get {B0 S : Nat} {F : Nat → List St} {W : World} {v : Value} {bs : List Nat} (h : AR2 B0 S F W v bs) (hn : 0 < bs.length) :
    ∃ g c, v = .slice (some ⟨g, 0, none⟩) bs.length c ∧ B0 ≤ g ∧ g < W.heap.size ∧ W.ownsRow B0 84 1 (.slice (some ⟨g, 0, none⟩) bs.length c) bs.length (bs.map (rV S)) ∧ ∀ i, i < bs.length → W.cell? ⟨g, i, none⟩ = some (rV S (bs.getD i 0)) := by
  obtain ⟨A, cap, hv, ho⟩ := h.1.opn
  obtain ⟨g, cap', hv2, hbg, hgs⟩ := ho.form (by omega)
  refine ⟨g, cap', hv.trans hv2, hbg, hgs, hv2 ▸ ho, fun i hi => ?_⟩
  have hc := (hv2 ▸ ho).cellAt i (by omega)
  refine hc.trans ?_
  rw [List.getElem?_map]
  simp [List.getD, hi]
theorem AR2.step {B0 S : Nat} {F : Nat → List St} {wA wB w1 : World} {v v' : Value} {bs : List Nat} {nb : Nat} (h : AR2 B0 S F wA v bs) (hbA : Below wA.heap.size wA wB) (hT : SRow 87 wB nb S (F bs.length)) (o : Go.Obj)
    (hg : (wB.alloc o).grownBy w1 v.ownBlock) (ho : Ow w1 B0 84 v' ((bs.map (rV S)) ++ [rV S nb])) : AR2 B0 S F w1 v' (bs ++ [nb]) := by
  have hB := h.below hbA
  have hC := hB.1.alloc o
  refine ⟨by rw [List.map_append]; exact ho, fun i hi => ?_⟩
  rw [List.length_append, List.length_singleton] at hi
  by_cases q : i < bs.length
  · have e1 : (bs ++ [nb]).getD i 0 = bs.getD i 0 := by simp only [List.getD, List.getElem?_append_left q]
    rw [e1]
    exact ((hB.2 i q).alloc o).kept hC (by decide) hg
  · have e0 : i = bs.length := by omega
    subst e0
    have e1 : (bs ++ [nb]).getD bs.length 0 = nb := by simp [List.getD]
    rw [e1]
    exact (hT.alloc o).kept hC (by decide) hg
theorem rowT_of {W : World} {B0 S g n cap : Nat} {bs : List Nat} (hl : bs.length = n) (h : W.ownsRow B0 84 1 (.slice (some ⟨g, 0, none⟩) n cap) n (bs.map (rV S))) : RowT W B0 S g n cap (fun i => bs.getD i 0) := by
  unfold RowT
  have : rowT' S n (fun i => bs.getD i 0) = bs.map (rV S) := by
    unfold rowT'
    refine List.ext_getElem (by simp [hl]) fun i h1 h2 => ?_
    simp only [List.length_map, List.length_range] at h1
    have hi : i < bs.length := by omega
    rw [List.getElem_map, List.getElem_range, List.getElem_map]
    simp [List.getD, hi]
  rw [this]
  exact h

end Go.Proofs.Ytopeidmafalklaa
