/-
  Contracts: a row of bunches copied; sorted.
  Conditions: at most 39 bunches.
-/
import Derived.Test.YtkmfjadlobpbkaaUK
import Derived.Test.YtkmfjadlobpbkaaBB
import Derived.StillTail
import Derived.StillTailTactics
import Derived.Deep.RegionHeld3
namespace Go.Proofs.Ytkmfjadlobpbkaa
open Go.RowKit

theorem infoBunch : (Try.prog.info? 48).map (fun i => (i.zero, i.size, i.bytes)) = some (some (.agg #[.int .i64 0, .slice none 0 0]), 2, 32) := by kernel_rfl
theorem info_size {P : Program} {e : TypeId} {z : Value} {size bytes : Nat} (hi : (P.info? e).map (fun i => (i.zero, i.size, i.bytes)) = some (some z, size, bytes)) : ∃ i, P.info? e = some i ∧ i.zero = some z ∧ i.size = size ∧ i.bytes = bytes := by
  cases hh : P.info? e with
  | none => rw [hh] at hi; cases hi
  | some i => rw [hh] at hi; simp at hi; exact ⟨i, rfl, hi.1, hi.2.1, hi.2.2⟩
/-- append of some elements of some cells, wherever they lie, to a row of the call's own -/
theorem appMs {P : Program} {t e : TypeId} (size : Nat) (hsz : 0 < size) (ht : P.underlying t = some (.slice e)) {z : Value} {bytes : Nat} (hi : (P.info? e).map (fun i => (i.zero, i.size, i.bytes)) = some (some z, size, bytes)) (hz : z.cells.size = size) (hby : bytes ≤ 64)
    {w : World} {ops : Array Oper} {rest : List Oper} {o : Oper} {a : Act} {Q : Exit → Act → World → Prop} (hgd : o.guard = none) (s x : Operand)
    (ho : o.op = .call { callee := .builtin .append, args := #[s, x], argTypes := #[t, t] }) (base : Nat) (v : Value) (n : Nat) (xs : List Value) (hs : a.eval s = v) (hown : w.ownsRow base e size v n xs)
    (g off m c : Nat) (news : List Value) (hx : a.eval x = .slice (some ⟨g, off, none⟩) m c) (hm : news.length = m * size) (hc : ∀ j u, news[j]? = some u → w.cell? ⟨g, off + j, none⟩ = some u) (h1 : ∀ u ∈ news, u.oneCell' = true)
    (hlen : n + m ≤ 1099511627776) (hbase : base ≤ w.heap.size)
    (h : ∀ v' w', w'.ownsRow base e size v' (n + m) (xs ++ news) → Below base w w' → wpList P ops Q rest (a.put o.dst v') w') : wpList P ops Q (o :: rest) a w := by
  obtain ⟨i, hi1, hi2, hi3, hi4⟩ := info_size hi
  refine wpList_append_own (P := P) w hgd s x t ho base e i z size bytes ht hi1 hi2 hi3 hi4 hz hsz v n xs hs hown ⟨g, off, none⟩ m c news hx hm ?_ h1 ?_ ?_ hbase ?_
  · intro j u hu
    rw [Addr.add_lit]
    exact hc j u hu
  · unfold maxLen; omega
  · have h2 : (n + m) * bytes ≤ 1099511627776 * 64 := Nat.mul_le_mul hlen hby
    omega
  · intro v' w' h2 h3 _
    exact h v' w' h2 ((Below.refl base w).grown h3 hbase fun k hk => (hown.lt k hk).1)
/-- append of one element of some cells, at the end of a drawn region -/
theorem step_app1s {P : Program} {t e : TypeId} (size : Nat) (hsz : 0 < size) (ht : P.underlying t = some (.slice e)) {z : Value} {bytes : Nat} (hi : (P.info? e).map (fun i => (i.zero, i.size, i.bytes)) = some (some z, size, bytes)) (hz : z.cells.size = size) (hby : bytes ≤ 64)
    {w : World} {ops : Array Oper} {o : Oper} {a : Act} {K : Act → World → Prop} {Q : Exit → Act → World → Prop} {E : Prop} (hgd : o.guard = none) (s x : Operand)
    (ho : o.op = .call { callee := .builtin .append, args := #[s, x], argTypes := #[t, t] }) (base : Nat) (v : Value) (n : Nat) (xs : List Value) (hs : a.eval s = v) (hown : w.ownsRow base e size v n xs)
    (g c : Nat) (news : List Value) (hx : a.eval x = .slice (some ⟨g, 0, none⟩) 1 c) (hm : news.length = size) (hc : ∀ j u, news[j]? = some u → w.cell? ⟨g, j, none⟩ = some u) (h1 : ∀ u ∈ news, u.oneCell' = true)
    (hlen : n + 1 ≤ 1099511627776) (hbase : base ≤ w.heap.size)
    (h : ∀ v' w', w'.ownsRow base e size v' (n + 1) (xs ++ news) → w.grownBy w' v.ownBlock → K (a.put o.dst v') w') : if Region.wanted o (yielded ops a.tmps) = true then Oper.wp P o a w K Q else E := by
  have hw : Region.wanted o (yielded ops a.tmps) = true := by simp [Region.wanted, hgd]
  rw [if_pos hw]
  obtain ⟨i, hi1, hi2, hi3, hi4⟩ := info_size hi
  refine wp_append_own w s x t ho base e i z size bytes ht hi1 hi2 hi3 hi4 hz hsz v n xs hs hown ⟨g, 0, none⟩ 1 c news hx (by omega) ?_ h1 ?_ ?_ hbase ?_
  · intro j u hu
    rw [Addr.add_lit, Nat.zero_add]
    exact hc j u hu
  · unfold maxLen; omega
  · have h2 : (n + 1) * bytes ≤ 1099511627776 * 64 := Nat.mul_le_mul hlen hby
    omega
  · intro v' w' h2 h3 _
    exact h v' w' h2 h3
theorem lit2_cells (w : World) (a b : Value) (e : TypeId) : ∀ j u, [a, b][j]? = some u → (w.alloc (.cells #[a, b] e)).cell? ⟨w.heap.size, j, none⟩ = some u := by
  intro j u hu
  have h := cell_of_row (w.alloc (.cells #[a, b] e)) w.heap.size j #[a, b] e (0, 0) (by
    show (w.heap.push _)[w.heap.size]? = _
    exact Array.getElem?_push_size)
  rw [h]
  rcases j with _ | _ | j
  · cases hu; rfl
  · cases hu; rfl
  · cases hu
theorem cell_alloc_lt {w : World} {o : Go.Obj} {b k : Nat} (h : b < w.heap.size) : (w.alloc o).cell? ⟨b, k, none⟩ = w.cell? ⟨b, k, none⟩ := ((Below.refl w.heap.size w).alloc (Nat.le_refl _) o).cell (p := ⟨b, k, none⟩) h
theorem pairL_get {α : Type} (f : α → α → α) (d : Int × α) : ∀ (l : List (Int × α)) (j : Nat), 2 * j + 1 < l.length → (pairL f l)[j]? = some ((l.getD (2 * j) d).1 + (l.getD (2 * j + 1) d).1, f (l.getD (2 * j) d).2 (l.getD (2 * j + 1) d).2)
  | [], j, h => by simp at h
  | [_], j, h => by simp at h
  | a :: b :: l, 0, _ => rfl
  | a :: b :: l, j + 1, h => by
    have := pairL_get f d l j (by simp at h; omega)
    show (pairL f l)[j]? = _
    rw [this, show 2 * (j + 1) = 2 * j + 1 + 1 by omega]
    rfl
theorem own2_empty (w : World) (base : Nat) (hb : base ≤ w.heap.size) : (w.alloc (.cells #[] 48)).ownsRow base 48 2 (.slice (some ⟨w.heap.size, 0, none⟩) 0 0) 0 [] := World.ownsRow_lit w #[] 0 hb (by simp [maxLen]) rfl
theorem cellsT_one {W : World} {B : Nat} {T : List Tri} (h : Let W B T) : ∀ u ∈ fl2 (cellsT T), u.oneCell' = true := by
  refine fl2_one _ fun t ht => ?_
  obtain ⟨r, hr, rfl⟩ := List.mem_map.1 ht
  obtain ⟨g, c, hv, _⟩ := World.ownsRow.form (h r hr).1 (by have := (h r hr).2; omega)
  simp only
  rw [hv]
  rfl


set_option maxRecDepth 100000 in
theorem Clone_bunch_c (w : World) (base g n cap : Nat) (xs : List Value) (hn : n ≤ 1048576) (ho : w.ownsRow base 48 2 (.slice (some ⟨g, 0, none⟩) n cap) n xs) (h1 : ∀ u ∈ xs, u.oneCell' = true) :
    Calls Try.prog 23 #[.slice (some ⟨g, 0, none⟩) n cap] w fun e w' => ∃ v, e = .returned v ∧ w'.ownsRow w.heap.size 48 2 v n xs ∧ Below w.heap.size w w' := by
  have HO := Lib.hid ho
  have hl := ho.1
  have hgl := (ho.lt g rfl).2
  clear ho
  obtain ⟨w1, e1⟩ : ∃ q : World, q = w.alloc (.cells #[] 48) := ⟨_, rfl⟩
  have b1 : Below w.heap.size w w1 := by rw [e1]; exact (Below.refl _ _).alloc (Nat.le_refl _) _
  have o1 : w1.ownsRow w.heap.size 48 2 (.slice (some ⟨w.heap.size, 0, none⟩) 0 0) 0 [] := by rw [e1]; exact own2_empty w w.heap.size (Nat.le_refl _)
  have hc : ∀ j u, xs[j]? = some u → w1.cell? ⟨g, 0 + j, none⟩ = some u := by
    intro j u hu
    rw [Nat.zero_add]
    have hj := (List.getElem?_eq_some_iff.1 hu).1
    refine (b1.cell (p := ⟨g, j, none⟩) hgl).trans ?_
    rw [World.ownsRow.cellAt HO.out j (by omega)]
    exact hu
  have B1 := Lib.hid b1
  have he := Lib.run_eql_slice_nil (P := Try.prog)
  go_enter Try.func23, Try.ntmps23
  go_wp2_with (first | (rw [← e1]; clear e1) | (at_builtin; go_must (refine appMs (P := Try.prog) 2 (by decide) Try.underlying43 infoBunch rfl (by decide) rfl _ _ rfl w.heap.size _ 0 [] rfl o1 g 0 n cap xs rfl (by omega) hc h1 (by omega) b1.size ?_); rintro v' w2 ho2 hb2))
  go_ret
  rw [Nat.zero_add, List.nil_append] at ho2
  exact ⟨_, rfl, ho2, B1.out.trans hb2⟩


theorem trow_el (T : List Tri) (v : Nat) : el (cellsT T) v = ((T.getD v (0, .slice none 0 0, [])).1, (T.getD v (0, .slice none 0 0, [])).2.1) := by
  unfold el cellsT
  rw [List.getD_eq_getElem?_getD, List.getD_eq_getElem?_getD, List.getElem?_map]
  cases T[v]? <;> rfl
theorem arr_id (ts : List (Int × Value)) (n : Nat) (h : ts.length = n) : arr ts n (fun i => i) = ts := by
  apply List.ext_getElem (by simp [arr, h])
  intro i h1 h2
  simp [arr, el, List.getD_eq_getElem?_getD, h2]
set_option maxRecDepth 100000 in
theorem sortT_c (w : World) (base g n cap B : Nat) (T : List Tri) (hl : T.length = n) (hn : n ≤ 39) (ho : w.ownsRow base 48 2 (.slice (some ⟨g, 0, none⟩) n cap) n (fl2 (cellsT T))) (hL : Let w B T) :
    Calls Try.prog 21 #[.slice (some ⟨g, 0, none⟩) n cap, .func (.func 22) #[] #[]] w fun e w' => e = .returned (.tuple #[]) ∧ ∃ T', T'.length = n ∧ plainT T' = sortL (plainT T) ∧ w'.ownsRow base 48 2 (.slice (some ⟨g, 0, none⟩) n cap) n (fl2 (cellsT T')) ∧ Let w' B T' ∧ w.grownBy w' (some g) := by
  have hcl : (cellsT T).length = n := by simp [cellsT, hl]
  have hS : Sls (cellsT T) := sls_of fun t ht => by
    obtain ⟨r, hr, rfl⟩ := List.mem_map.1 ht
    obtain ⟨g', c', hv, _⟩ := World.ownsRow.form (hL r hr).1 (by have := (hL r hr).2; omega)
    exact ⟨_, _, _, hv⟩
  have hR : RowS w base g n cap (cellsT T) (fun i => i) := by unfold RowS; rw [arr_id _ _ hcl]; exact ho
  refine (SortStable_c w base g n cap (cellsT T) _ _ hn hR ⟨cmp_by (cellsT T), hS⟩).mono ?_
  rintro e w' ⟨rfl, q, hr, hs, hf, hg⟩
  refine ⟨rfl, (List.range n).map fun i => T.getD (q i) (0, .slice none 0 0, []), by simp, ?_, ?_, ?_, hg⟩
  · have hkey : (fun v => (el (cellsT T) v).1) = fun v => ((fun u => ((T.getD u (0, .slice none 0 0, [])).1, (T.getD u (0, .slice none 0 0, [])).2.2)) v : Int × List Int).1 := by
      funext v
      rw [trow_el]
    rw [hkey] at hs
    have h := sorted_is (fun u => ((T.getD u (0, .slice none 0 0, [])).1, (T.getD u (0, .slice none 0 0, [])).2.2)) hs hf
    unfold plainT
    rw [List.map_map]
    refine h.trans ?_
    congr 1
    apply List.ext_getElem (by simp [hl])
    intro i h1 h2
    have hi : i < T.length := by simpa using h2
    simp [List.getD_eq_getElem?_getD, hi]
  · have e : cellsT ((List.range n).map fun i => T.getD (q i) (0, .slice none 0 0, [])) = arr (cellsT T) n q := by
      unfold cellsT arr
      rw [List.map_map]
      apply List.map_congr_left
      intro i _
      exact (trow_el T (q i)).symm
    rw [e]
    exact hr
  · intro t ht
    obtain ⟨i, hi, rfl⟩ := List.mem_map.1 ht
    have hq : q i < T.length := by rw [hl]; exact shuf_lt hf (Nat.le_refl _) (fun j hj => hj) (List.mem_range.1 hi)
    have hm : T.getD (q i) (0, .slice none 0 0, []) ∈ T := by
      rw [List.getD_eq_getElem?_getD, List.getElem?_eq_getElem hq]
      exact List.getElem_mem hq
    have h := (hL _ hm)
    exact ⟨h.1.kept hg (own_typesM h.1 ho (by decide)), h.2⟩

end Go.Proofs.Ytkmfjadlobpbkaa
