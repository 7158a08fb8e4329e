/-
  Plain: an append at the end of a drawn region.
  Conditions: one value more, within the length bound.
-/
import Derived.Test.YtepdjehbgkfjhaaH
import Derived.StillTail
import Derived.StillTailTactics
import Derived.Deep.RegionHeld3
namespace Go.Proofs.Ytepdjehbgkfjhaa
open Go.RowKit

theorem step_app1 {P : Program} {t e : TypeId} (ht : P.underlying t = some (.slice e)) {z : Value} {bytes : Nat} (hi : (P.info? e).map (fun i => (i.zero, i.size, i.bytes)) = some (some z, 1, bytes)) (hz : z.cells.size = 1) (hby : bytes ≤ 64)
    {w : World} {ops : Array Oper} {o : Oper} {a : Act} {K : Act → World → Prop} {Q : Exit → Act → World → Prop} {E : Prop} (hgd : o.guard = none) (s x : Operand)
    (ho : o.op = .call { callee := .builtin .append, args := #[s, x], argTypes := #[t, t] }) (base : Nat) (v : Value) (xs : List Value) (hs : a.eval s = v) (hown : Ow w base e v xs)
    (g c : Nat) (u : Value) (hx : a.eval x = .slice (some ⟨g, 0, none⟩) 1 c) (hc : w.cell? ⟨g, 0, none⟩ = some u) (h1 : u.oneCell' = true)
    (hlen : xs.length + 1 ≤ 1099511627776) (hbase : base ≤ w.heap.size)
    (h : ∀ v' w', Ow w' base e v' (xs ++ [u]) → w.grownBy w' v.ownBlock → K (a.put o.dst v') w') : if Region.wanted o (yielded ops a.tmps) = true then Oper.wp P o a w K Q else E := by
  have hw : Region.wanted o (yielded ops a.tmps) = true := by simp [Region.wanted, hgd]
  rw [if_pos hw]
  obtain ⟨i, hi1, hi2, hi3, hi4⟩ := info_ok hi
  refine wp_append_own w s x t ho base e i z 1 bytes ht hi1 hi2 hi3 hi4 hz (by decide) v xs.length xs hs hown ⟨g, 0, none⟩ 1 c [u] hx (by simp) ?_ (by simpa using h1) ?_ ?_ hbase ?_
  · intro j u' hu
    have e1 : (⟨g, 0, none⟩ : Addr).add j = ⟨g, j, none⟩ := by unfold Addr.add; split <;> simp_all
    rw [e1]
    cases j with
    | zero => cases hu; exact hc
    | succ j => cases hu
  · unfold maxLen; omega
  · have h2 : (xs.length + 1) * bytes ≤ 1099511627776 * 64 := Nat.mul_le_mul hlen hby
    omega
  · intro v' w' h2 h3 _
    refine h v' w' ?_ h3
    unfold Ow
    rw [List.length_append, List.length_singleton]
    exact h2

end Go.Proofs.Ytepdjehbgkfjhaa
