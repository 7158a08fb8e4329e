/-
  Rows of saved ones opened.
  Conditions: none.
-/
import Derived.Test.YtmkjlhobnlgpjaaOD
import Derived.Test.YtmkjlhobnlgpjaaSA
namespace Go.Proofs.Ytmkjlhobnlgpjaa
open Go.ChangeShapes Go.WideShapes Go.ChangeAt Go.RowKit

def savGood (w : World) (r : SavH) : Prop := okSav maxLen r ∧ (∀ x ∈ r.xs, x < 4294967296) ∧ Sl w w.heap.size r.A (r.bs.map Value.bool) ∧ Sl w w.heap.size r.A2 (r.xs.map (Value.float .f32))
instance : Inhabited SavH := ⟨⟨.empty, none, 0, [], none, 0, []⟩⟩
set_option maxRecDepth 100000 in
theorem open_Saved_cells {H : Type} {enc : TypeId × Value → H} {w : World} {cs : List Value} {fuel : Nat} {y : DataW H × List MemPlace} (hlen : cs.length = 3) (h : DataW.trod enc Try.prog w 0 (fun _ => true) true fuel 31 cs = some y) :
    ∃ r : SavH, cs = savC r ∧ savGood w r := by
  have k0 : Try.prog.cellsOf 9 = 1 := by kernel_rfl
  have k1 : Try.prog.cellsOf 28 = 1 := by kernel_rfl
  have k2 : Try.prog.cellsOf 29 = 1 := by kernel_rfl
  obtain ⟨xs, n, _, _, _, hl, hf⟩ := DataW.trod_struct Try.underlying31 h
  have h0 := hf 0 _ rfl
  have h1 := hf 1 _ rfl
  have h2 := hf 2 _ rfl
  simp [k0] at h0
  simp [k1] at h1
  simp [k2] at h2
  match cs, hlen, xs, hl with
  | [v0, v1, v2], _, [y0, y1, y2], _ =>
    obtain ⟨s, hs, _, hz⟩ := DataW.trod_string Try.underlying9 (h0.trans rfl)
    obtain ⟨A, n1, cap, bs, hv1, hl1, hc1, hd1, _, hx1⟩ := open_bools_trod (h1.trans rfl)
    obtain ⟨A2, n2, cap2, ys, hv2, hl2, hc2, hd2, hw, hx2⟩ := open_f32s_trod (h2.trans rfl)
    obtain rfl : v0 = .string s := by simpa using hs
    subst hv1 hv2 hl1 hl2
    exact ⟨⟨s, A, cap, bs, A2, cap2, ys⟩, rfl, ⟨hz, Nat.le_trans hc1 hd1, Nat.le_trans hc2 hd2⟩, fun x hx => wf32.1 (hw x hx), hx1, hx2⟩
theorem add_plain3 (b off k : Nat) : (⟨b, off, none⟩ : Addr).add k = ⟨b, off + k, none⟩ := by unfold Addr.add; split <;> simp_all

set_option maxRecDepth 100000 in
theorem open_SavedS {H : Type} {enc : TypeId × Value → H} {w : World} {r : Reach} {b0 : Nat} {v : Value} {d : DataW H} {p : List MemPlace} (hval : Value.okWide Try.prog w r b0 22 v) (h : DataW.Trod enc Try.prog w 0 (fun _ => true) true 22 v d p) :
    ∃ (A : Option Addr) (n cap : Nat) (rs : List SavH), v = .slice A n cap ∧ rs.length = n ∧ n ≤ maxLen ∧ (∀ r ∈ rs, okSav maxLen r) ∧ (∀ r ∈ rs, ∀ x ∈ r.xs, x < 4294967296) ∧ SlS w w.heap.size A rs := by
  obtain ⟨a0, len, cap, rfl⟩ := okWide_slice Try.underlying22 hval
  obtain ⟨fuel, hf⟩ := h
  have kC : Try.prog.cellsOf 31 = 3 := by kernel_rfl
  rcases Deep.open_slice Try.underlying22 hf with ⟨hcs, _⟩ | ⟨a, len', cap', m, n, D, Pl, hcs, _, hl, hm, hmm, _, hx⟩
  · simp [Value.cells] at hcs
    obtain ⟨rfl, rfl, rfl⟩ := hcs
    exact ⟨none, 0, 0, [], rfl, rfl, by simp [maxLen], by simp, by simp, .inl rfl, by simp⟩
  · simp [Value.cells] at hcs
    obtain ⟨rfl, rfl, rfl⟩ := hcs
    simp only [if_true] at hmm
    rw [kC] at hx
    have hel : ∀ i, i < len → ∃ r : SavH, savGood w r ∧ ∀ j, j < 3 → w.cell? (a.add (i * 3 + j)) = (savC r)[j]? := by
      intro i hi
      obtain ⟨cs', hc, ht⟩ := hx i (by omega)
      obtain ⟨_, hcl, hat⟩ := World.cells?_some hc
      obtain ⟨r, rfl, hg⟩ := open_Saved_cells hcl ht
      refine ⟨r, hg, fun j hj => ?_⟩
      rw [← hat j hj, Go.Deep.add_add]
    obtain ⟨g, hg⟩ := Deep.choose_lt (n := len) (p := fun i r => savGood w r ∧ ∀ j, j < 3 → w.cell? (a.add (i * 3 + j)) = (savC r)[j]?) hel
    have hmem : ∀ r ∈ (List.range len).map g, savGood w r := by
      intro y hy
      obtain ⟨i, hi, rfl⟩ := List.mem_map.1 hy
      exact (hg i (by simpa using hi)).1
    refine ⟨some a, len, cap, (List.range len).map g, rfl, by simp, Nat.le_trans hl hm, fun r hr => (hmem r hr).1, fun r hr => (hmem r hr).2.1, ?_, fun r hr => (hmem r hr).2.2⟩
    by_cases h0 : len = 0
    · subst h0; exact .inl rfl
    · obtain ⟨b, off, spot⟩ := a
      have hc0 := (hg 0 (by omega)).2 0 (by decide)
      have hspot : spot = none := by simpa [Addr.add] using World.cell?_spot hc0
      subst hspot
      have hlt := World.block_lt_of_cell? w _ hc0
      refine .inr ⟨b, off, rfl, by rwa [add_plain3] at hlt, fun j u hu => ?_⟩
      have hj : j < 3 * len := by
        have := (List.getElem?_eq_some_iff.1 hu).1
        rw [savCells_len] at this
        simpa using this
      have h1 := (hg (j / 3) (by omega)).2 (j % 3) (by omega)
      have h2 := savCells_get (rs := (List.range len).map g) (k := j / 3) (by simp; omega) (j % 3) (by omega)
      rw [show 3 * (j / 3) + j % 3 = j by omega, hu] at h2
      rw [add_plain3, show j / 3 * 3 + j % 3 = j by omega] at h1
      rw [h1, h2]
      simp

end Go.Proofs.Ytmkjlhobnlgpjaa
