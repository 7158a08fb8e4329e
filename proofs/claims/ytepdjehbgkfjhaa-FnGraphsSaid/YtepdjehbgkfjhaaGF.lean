/-
  Plain: a row of slices that the call owns, each of a row of float32 of the call's own.
  Conditions: none.
-/
import Derived.Test.YtepdjehbgkfjhaaGE
import Derived.Test.YtepdjehbgkfjhaaOB
namespace Go.Proofs.Ytepdjehbgkfjhaa
open Go.RowKit

/-- a row of float32 in a block of the call's own, from a block on -/
def InR (W : World) (base : Nat) (r : RowG) : Prop := ∃ b cur, r.1 = some ⟨b, 0, none⟩ ∧ base ≤ b ∧ W.heap[b]? = some (.cells cur 46 (0, 0)) ∧ cur.toList.take r.2.2.length = r.2.2.map (Value.float .f32)
theorem InR.below {W W' : World} {base : Nat} {r : RowG} (h : InR W base r) (hb : Below W.heap.size W W') : InR W' base r := by
  obtain ⟨b, cur, h1, h2, h3, h4⟩ := h
  exact ⟨b, cur, h1, h2, (hb.block b (Array.getElem?_eq_some_iff.1 h3).1).trans h3, h4⟩
theorem InR.kept {W W' : World} {base base2 k : Nat} {e : TypeId} {v : Value} {xs : List Value} {r : RowG} (h : InR W base r) (hr : W.ownsRow base2 e 1 v k xs) (hne : 46 ≠ e) (hg : W.grownBy W' v.ownBlock) : InR W' base r := by
  obtain ⟨b, cur, h1, h2, h3, h4⟩ := h
  exact ⟨b, cur, h1, h2, Obj.kept h3 hg (Obj.not_row h3 hne hr), h4⟩
theorem InR.grown {W W' : World} {base : Nat} {r : RowG} (h : InR W base r) (hg : W.grownBy W' none) : InR W' base r := by
  obtain ⟨b, cur, h1, h2, h3, h4⟩ := h
  exact ⟨b, cur, h1, h2, Obj.kept h3 hg (by simp), h4⟩
theorem InR.base {W : World} {base base' : Nat} {r : RowG} (h : InR W base r) (hb : base' ≤ base) : InR W base' r := by
  obtain ⟨b, cur, h1, h2, h3, h4⟩ := h
  exact ⟨b, cur, h1, Nat.le_trans hb h2, h3, h4⟩
theorem InR.sl {W : World} {base : Nat} {r : RowG} (h : InR W base r) : Sl W W.heap.size r.1 (r.2.2.map (Value.float .f32)) := by
  obtain ⟨b, cur, h1, h2, h3, h4⟩ := h
  refine .inr ⟨b, 0, h1, (Array.getElem?_eq_some_iff.1 h3).1, fun j u hu => ?_⟩
  have hj := (List.getElem?_eq_some_iff.1 hu).1
  rw [List.length_map] at hj
  have := Obj.cell (W := W) (B := b) (t := 46) (cs := cur) h3 j
  rw [Nat.zero_add, this]
  rw [← h4, List.getElem?_take_of_lt hj, Array.getElem?_toList] at hu
  exact hu
/-- a row that the call owns, as such -/
theorem InR.of_own {W : World} {base : Nat} {v : Value} {xs : List Nat} (h : Ow W base 46 v (xs.map (Value.float .f32))) (h1 : 1 ≤ xs.length) : ∃ b cap, v = .slice (some ⟨b, 0, none⟩) xs.length cap ∧ InR W base (some ⟨b, 0, none⟩, cap, xs) := by
  have hl : (xs.map (Value.float .f32)).length = xs.length := List.length_map _
  rcases h.2 with ⟨_, h0⟩ | ⟨g, cap, cur, rfl, hb, hg, _, _, _, ht⟩
  · omega
  · refine ⟨g, cap, by rw [hl], g, cur, rfl, hb, hg, ?_⟩
    rw [Nat.mul_one, hl] at ht
    exact ht
/-- a row of such rows -/
def Own2 (W : World) (base : Nat) (v : Value) (ms : List RowG) : Prop := Ow W base 30 v (ms.map rowGV) ∧ ∀ r ∈ ms, InR W base r
theorem Own2.below {W W' : World} {base : Nat} {v : Value} {ms : List RowG} (h : Own2 W base v ms) (hb : Below W.heap.size W W') : Own2 W' base v ms :=
  ⟨own_below h.1 hb (Nat.le_refl _), fun r hr => (h.2 r hr).below hb⟩
theorem Own2.base {W : World} {base base' : Nat} {v : Value} {ms : List RowG} (h : Own2 W base v ms) (hb : base' ≤ base) : Own2 W base' v ms :=
  ⟨own_base h.1 hb, fun r hr => (h.2 r hr).base hb⟩
theorem Own2.nil (W : World) (base : Nat) (hb : base ≤ W.heap.size) : Own2 (W.alloc (.cells #[] 30)) base (.slice (some ⟨W.heap.size, 0, none⟩) 0 0) [] :=
  ⟨own_empty W base 30 hb, fun r hr => by cases hr⟩
theorem Own2.sl {W : World} {base : Nat} {v : Value} {ms : List RowG} (h : Own2 W base v ms) : ∃ A cap, v = .slice A ms.length cap ∧ Sl2G W W.heap.size A ms := by
  obtain ⟨A, cap, hv, _, hs⟩ := h.1.sl
  rw [List.length_map] at hv
  exact ⟨A, cap, hv, hs, fun r hr => (h.2 r hr).sl⟩
/-- one row more -/
theorem Own2.app {W W' : World} {base : Nat} {v v' : Value} {ms : List RowG} {r : RowG} (h : Own2 W base v ms) (hr : InR W base r) (ho : Ow W' base 30 v' (ms.map rowGV ++ [rowGV r])) (hg : W.grownBy W' v.ownBlock) : Own2 W' base v' (ms ++ [r]) := by
  refine ⟨by rw [List.map_append]; exact ho, fun q hq => ?_⟩
  rcases List.mem_append.1 hq with hq | hq
  · exact (h.2 q hq).kept h.1 (by decide) hg
  · rw [List.mem_singleton.1 hq]
    exact hr.kept h.1 (by decide) hg
theorem Own2.datG_snoc (ms : List RowG) (r : RowG) : datG (ms ++ [r]) = datG ms ++ [r.2.2] := by simp [datG]
/-- append of one slice, just laid in a literal of one -/
theorem appO {P : Program} {t e : TypeId} (ht : P.underlying t = some (.slice e)) {z : Value} {bytes : Nat} (hi : (P.info? e).map (fun i => (i.zero, i.size, i.bytes)) = some (some z, 1, bytes)) (hz : z.cells.size = 1) (hby : bytes ≤ 64)
    {w : World} {ops : Array Oper} {rest : List Oper} {o : Oper} {a : Act} {Q : Exit → Act → World → Prop} (hgd : o.guard = none) (s x : Operand)
    (ho : o.op = .call { callee := .builtin .append, args := #[s, x], argTypes := #[t, t] }) (base : Nat) (v : Value) (xs : List Value) (hs : a.eval s = v) (hown : Ow w base e v xs)
    (g c : Nat) (u : Value) (hx : a.eval x = .slice (some ⟨g, 0, none⟩) 1 c) (hc : w.cell? ⟨g, 0, none⟩ = some u) (h1 : u.oneCell' = true)
    (hlen : xs.length + 1 ≤ 1099511627776) (hbase : base ≤ w.heap.size)
    (h : ∀ v' w', Ow w' base e v' (xs ++ [u]) → w.grownBy w' v.ownBlock → wpList P ops Q rest (a.put o.dst v') w') : wpList P ops Q (o :: rest) a w := by
  obtain ⟨i, hi1, hi2, hi3, hi4⟩ := info_ok hi
  refine wpList_append_own (P := P) w hgd s x t ho base e i z 1 bytes ht hi1 hi2 hi3 hi4 hz (by decide) v xs.length xs hs hown ⟨g, 0, none⟩ 1 c [u] hx (by simp) ?_ (by simpa using h1) (by unfold maxLen; omega) ?_ hbase ?_
  · intro j u' hu
    have e1 : (⟨g, 0, none⟩ : Addr).add j = ⟨g, j, none⟩ := by unfold Addr.add; split <;> simp_all
    rw [e1]
    cases j with
    | zero => cases hu; exact hc
    | succ j => cases hu
  · have h2 : (xs.length + 1) * bytes ≤ 1099511627776 * 64 := Nat.mul_le_mul hlen hby
    omega
  · intro v' w' h2 h3 _
    refine h v' w' ?_ h3
    unfold Ow
    rw [List.length_append, List.length_singleton]
    exact h2

end Go.Proofs.Ytepdjehbgkfjhaa
