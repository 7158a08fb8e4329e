/-
  A row of bytes that a variable's box holds: appends onto it.
  Conditions: none.
-/
import Derived.Test.YtopeidmafalklaaCK
import Derived.Test.YtopeidmafalklaaOB
namespace Go.Proofs.Ytopeidmafalklaa
open Go.RowKit Go.Shelf
attribute [local go_sem] Oper.semAt_some

/-- the box Bo holds a slice that owns the elements xs, in a row from block D on -/
def Bufd (W : World) (D Bo : Nat) (T e : TypeId) (xs : List Value) : Prop :=
  ∃ v, Boxed W Bo T v ∧ W.ownsRow D e 1 v xs.length xs ∧ ∃ g cap, v = .slice (some ⟨g, 0, none⟩) xs.length cap
theorem bufd_own {β : Type} (D Bo : Nat) (T e : TypeId) (f : β → List Value) : Own (fun s W => Bufd W D Bo T e (f s)) :=
  holdsRow_own D Bo T e 1 (fun s => (f s).length) f (fun s v => ∃ g cap, v = .slice (some ⟨g, 0, none⟩) (f s).length cap)
theorem own_form {w : World} {base : Nat} {e : TypeId} {n : Nat} {v : Value} {xs : List Value} (h : w.ownsRow base e 1 v n xs) (hn : 0 < n) : ∃ g cap, v = .slice (some ⟨g, 0, none⟩) n cap := by
  rcases h.2 with ⟨_, h0⟩ | ⟨g, cap, _, rfl, _⟩
  · omega
  · exact ⟨g, cap, rfl⟩

/-- what stands behind an append onto a box's row, the store done -/
structure Appd (W w1 : World) (D Bo : Nat) (T e : TypeId) (v v' : Value) (N : Nat) (ys : List Value) : Prop where
  old : Boxed w1 Bo T v
  new : Boxed (w1.setCell ⟨Bo, 0, none⟩ v') Bo T v'
  row : (w1.setCell ⟨Bo, 0, none⟩ v').ownsRow D e 1 v' N ys
  oth : KeepsOthers W (w1.setCell ⟨Bo, 0, none⟩ v')
  bel : Below D W (w1.setCell ⟨Bo, 0, none⟩ v')
  bel0 : Below D W w1
  keep : ∀ k, k < W.heap.size → some k ≠ v.ownBlock → k ≠ Bo → (w1.setCell ⟨Bo, 0, none⟩ v').heap[k]? = W.heap[k]?
  form : ∃ g cap, v' = .slice (some ⟨g, 0, none⟩) N cap
theorem row_len {w : World} {base : Nat} {e : TypeId} {n : Nat} {v : Value} {xs : List Value} (h : w.ownsRow base e 1 v n xs) : xs.length = n := by have := h.1; omega
theorem Appd.buf {W w1 : World} {D Bo : Nat} {T e : TypeId} {v v' : Value} {N : Nat} {ys : List Value} (h : Appd W w1 D Bo T e v v' N ys) : Bufd (w1.setCell ⟨Bo, 0, none⟩ v') D Bo T e ys := by
  have hl := row_len h.row
  have h2 := h.row
  have h3 := h.form
  rw [← hl] at h2 h3
  exact ⟨v', h.new, h2, h3⟩
theorem Appd.box {W w1 : World} {D Bo : Nat} {T e : TypeId} {v v' : Value} {N n : Nat} {ys xs : List Value} (h : Appd W w1 D Bo T e v v' N ys) (hrow : W.ownsRow D e 1 v n xs) {k : Nat} {t : TypeId} {u : Value} (hk : Boxed W k t u) (hte : t ≠ e) (hne : k ≠ Bo) : Boxed (w1.setCell ⟨Bo, 0, none⟩ v') k t u :=
  (h.keep k hk.lt (hk.not_row hte hrow) hne).trans hk
theorem appd_of {W W0 w1 : World} {D Bo : Nat} {T e : TypeId} {v v' : Value} {n N : Nat} {xs ys : List Value} {row : Option Nat}
    (hv : Boxed W Bo T v) (hte : T ≠ e) (hrow : W.ownsRow D e 1 v n xs) (hD : D ≤ W.heap.size) (hB : D ≤ Bo) (hW0 : W.grownBy W0 none) (hrow0 : row = v.ownBlock)
    (hown' : w1.ownsRow D e 1 v' N ys) (hgrow : W0.grownBy w1 row) (hn : 0 < N) : Appd W w1 D Bo T e v v' N ys := by
  subst hrow0
  have hrow2 : W0.ownsRow D e 1 v n xs := hrow.kept hW0 (by
    rcases hvb : v.ownBlock with _ | j
    · exact .inl rfl
    · exact .inr (by simp))
  have hv0 : Boxed W0 Bo T v := hv.kept hW0 (by simp)
  have hv1 : Boxed w1 Bo T v := hv0.kept hgrow (hv0.not_row hte hrow2)
  refine ⟨hv1, hv1.set v', hown'.kept (grownBy_setCell' w1 Bo v') (.inr (hv1.not_row hte hown').symm), ?_, ?_, ?_, ?_, own_form hown' hn⟩
  · refine ((KeepsOthers.of_grownBy hW0 (by simp)).trans (KeepsOthers.of_grownBy hgrow fun j o ej hj => ?_)).trans (KeepsOthers.setCell _ _ _)
    rcases hrow2.2 with ⟨rfl, _⟩ | ⟨g, cap, cur, rfl, _, hgb, _⟩
    · simp [Value.ownBlock] at ej
    · obtain rfl : g = j := by simpa [Value.ownBlock] using ej
      rw [hgb] at hj; cases hj; rfl
  · refine (((Below.refl D W).grown hW0 hD (by simp)).grown hgrow (Nat.le_trans hD hW0.size) fun j ej => ?_).setCell (p := ⟨Bo, 0, none⟩) hB v'
    rcases hrow.2 with ⟨rfl, _⟩ | ⟨g, cap, cur, rfl, hb, _, _⟩
    · simp [Value.ownBlock] at ej
    · obtain rfl : g = j := by simpa [Value.ownBlock] using ej
      exact hb
  · refine ((Below.refl D W).grown hW0 hD (by simp)).grown hgrow (Nat.le_trans hD hW0.size) fun j ej => ?_
    rcases hrow.2 with ⟨rfl, _⟩ | ⟨g, cap, cur, rfl, hb, _, _⟩
    · simp [Value.ownBlock] at ej
    · obtain rfl : g = j := by simpa [Value.ownBlock] using ej
      exact hb
  · intro k hk h1 h2
    have e1 := hW0.block k hk (by simp)
    have e2 := hgrow.block k (Nat.lt_of_lt_of_le hk hW0.size) h1
    have e3 := (grownBy_setCell' w1 Bo v').block k (Nat.lt_of_lt_of_le hk (Nat.le_trans hW0.size hgrow.size)) (by intro h; injection h with h; exact h2 h)
    rw [e3, e2, e1]
theorem grown_allocW (W : World) (o : Go.Obj) : W.grownBy (W.alloc o) none := World.grownBy_alloc W o none

/-- append of some one-cell elements, just laid, to a box's row -/
theorem appBx {P : Program} {t e : TypeId} (ht : P.underlying t = some (.slice e)) {z : Value} {bytes : Nat} (hi : (P.info? e).map (fun i => (i.zero, i.size, i.bytes)) = some (some z, 1, bytes)) (hz : z.cells.size = 1) (hby : bytes ≤ 64)
    {ops : Array Oper} {rest : List Oper} {o : Oper} {a : Act} {Q : Exit → Act → World → Prop} (hgd : o.guard = none) (s x : Operand)
    (ho : o.op = .call { callee := .builtin .append, args := #[s, x], argTypes := #[t, t] }) (W : World) (D Bo : Nat) (T : TypeId) (v : Value) (n : Nat) (xs : List Value) (hs : a.eval s = v) (hv : Boxed W Bo T v) (hte : T ≠ e) (hown : W.ownsRow D e 1 v n xs) (hD : D ≤ W.heap.size) (hB : D ≤ Bo)
    (G : Nat) (hG : G = W.heap.size) (C : Array Value) (et : TypeId) (m c : Nat) (news : List Value) (hx : a.eval x = .slice (some ⟨G, 0, none⟩) m c) (hm : news.length = m) (hm0 : 0 < m) (hc : ∀ j u, news[j]? = some u → (W.alloc (.cells C et)).cell? ⟨W.heap.size, j, none⟩ = some u) (h1 : ∀ u ∈ news, u.oneCell' = true)
    (hlen : n + m ≤ 1099511627776)
    (h : ∀ v' w1 N, Hid (N = n + m) → Appd W w1 D Bo T e v v' N (xs ++ news) → wpList P ops Q rest (a.put o.dst v') w1) : wpList P ops Q (o :: rest) a (W.alloc (.cells C et)) := by
  subst hG
  obtain ⟨i, hi1, hi2, hi3, hi4⟩ := info_ok hi
  refine wpList_append_own (P := P) _ hgd s x t ho D e i z 1 bytes ht hi1 hi2 hi3 hi4 hz (by decide) v n xs hs (hown.alloc _) ⟨W.heap.size, 0, none⟩ m c news hx (by omega) ?_ h1 (by unfold maxLen; omega) ?_ (Nat.le_trans hD (by simp)) ?_
  · intro j u hu
    have e1 : (⟨W.heap.size, 0, none⟩ : Addr).add j = ⟨W.heap.size, j, none⟩ := by unfold Addr.add; split <;> simp_all
    rw [e1]
    exact hc j u hu
  · have h2 : (n + m) * bytes ≤ 1099511627776 * 64 := Nat.mul_le_mul hlen hby
    omega
  · intro v' w' h2 h3 _
    exact h v' w' _ (Lib.hid rfl) (appd_of hv hte hown hD hB (grown_allocW W _) rfl h2 h3 (by omega))
/-- the same inside a fence -/
theorem appBxIn {F : Fence} {nf : Nat} {P : Program} {t e : TypeId} (ht : P.underlying t = some (.slice e)) {z : Value} {bytes : Nat} (hi : (P.info? e).map (fun i => (i.zero, i.size, i.bytes)) = some (some z, 1, bytes)) (hz : z.cells.size = 1) (hby : bytes ≤ 64)
    {ops : Array Oper} {rest : List Oper} {o : Oper} {a : Act} {Q : Exit → Act → World → Prop} (hgd : o.guard = none) (s x : Operand)
    (ho : o.op = .call { callee := .builtin .append, args := #[s, x], argTypes := #[t, t] }) (W : World) (D Bo : Nat) (T : TypeId) (v : Value) (n : Nat) (xs : List Value) (hs : a.eval s = v) (hv : Boxed W Bo T v) (hte : T ≠ e) (hown : W.ownsRow D e 1 v n xs) (hD : D ≤ W.heap.size) (hB : D ≤ Bo)
    (G : Nat) (hG : G = W.heap.size) (C : Array Value) (et : TypeId) (m c : Nat) (news : List Value) (hx : a.eval x = .slice (some ⟨G, 0, none⟩) m c) (hm : news.length = m) (hm0 : 0 < m) (hc : ∀ j u, news[j]? = some u → (W.alloc (.cells C et)).cell? ⟨W.heap.size, j, none⟩ = some u) (h1 : ∀ u ∈ news, u.oneCell' = true)
    (hlen : n + m ≤ 1099511627776)
    (h : ∀ v' w1 N, Hid (N = n + m) → Appd W w1 D Bo T e v v' N (xs ++ news) → wpListIn F nf P ops Q rest (a.put o.dst v') w1) : wpListIn F nf P ops Q (o :: rest) a (W.alloc (.cells C et)) := by
  subst hG
  obtain ⟨i, hi1, hi2, hi3, hi4⟩ := info_ok hi
  refine wpListIn_append_own (P := P) _ hgd s x t ho D e i z 1 bytes ht hi1 hi2 hi3 hi4 hz (by decide) v n xs hs (hown.alloc _) ⟨W.heap.size, 0, none⟩ m c news hx (by omega) ?_ h1 (by unfold maxLen; omega) ?_ (Nat.le_trans hD (by simp)) ?_
  · intro j u hu
    have e1 : (⟨W.heap.size, 0, none⟩ : Addr).add j = ⟨W.heap.size, j, none⟩ := by unfold Addr.add; split <;> simp_all
    rw [e1]
    exact hc j u hu
  · have h2 : (n + m) * bytes ≤ 1099511627776 * 64 := Nat.mul_le_mul hlen hby
    omega
  · intro v' w' h2 h3 _
    exact h v' w' _ (Lib.hid rfl) (appd_of hv hte hown hD hB (grown_allocW W _) rfl h2 h3 (by omega))
/-- append of some one-cell elements to a row of the call's own; what is no cells stays -/
theorem appNK {P : Program} {t e : TypeId} (ht : P.underlying t = some (.slice e)) {z : Value} {bytes : Nat} (hi : (P.info? e).map (fun i => (i.zero, i.size, i.bytes)) = some (some z, 1, bytes)) (hz : z.cells.size = 1) (hby : bytes ≤ 64)
    {ops : Array Oper} {rest : List Oper} {o : Oper} {a : Act} {Q : Exit → Act → World → Prop} (hgd : o.guard = none) (s x : Operand)
    (ho : o.op = .call { callee := .builtin .append, args := #[s, x], argTypes := #[t, t] }) (W : World) (D : Nat) (v : Value) (n : Nat) (xs : List Value) (hs : a.eval s = v) (hown : W.ownsRow D e 1 v n xs) (hD : D ≤ W.heap.size)
    (G : Nat) (hG : G = W.heap.size) (C : Array Value) (et : TypeId) (m c : Nat) (news : List Value) (hx : a.eval x = .slice (some ⟨G, 0, none⟩) m c) (hm : news.length = m) (hc : ∀ j u, news[j]? = some u → (W.alloc (.cells C et)).cell? ⟨W.heap.size, j, none⟩ = some u) (h1 : ∀ u ∈ news, u.oneCell' = true)
    (hlen : n + m ≤ 1099511627776)
    (h : ∀ v' w1, w1.ownsRow D e 1 v' (n + m) (xs ++ news) → Below D W w1 → KeepsOthers W w1 → wpList P ops Q rest (a.put o.dst v') w1) : wpList P ops Q (o :: rest) a (W.alloc (.cells C et)) := by
  subst hG
  obtain ⟨i, hi1, hi2, hi3, hi4⟩ := info_ok hi
  refine wpList_append_own (P := P) _ hgd s x t ho D e i z 1 bytes ht hi1 hi2 hi3 hi4 hz (by decide) v n xs hs (hown.alloc _) ⟨W.heap.size, 0, none⟩ m c news hx (by omega) ?_ h1 (by unfold maxLen; omega) ?_ (Nat.le_trans hD (by simp)) ?_
  · intro j u hu
    have e1 : (⟨W.heap.size, 0, none⟩ : Addr).add j = ⟨W.heap.size, j, none⟩ := by unfold Addr.add; split <;> simp_all
    rw [e1]
    exact hc j u hu
  · have h2 : (n + m) * bytes ≤ 1099511627776 * 64 := Nat.mul_le_mul hlen hby
    omega
  · intro v' w' h2 h3 _
    refine h v' w' h2 ?_ ?_
    · refine ((Below.refl D W).alloc hD _).grown h3 (Nat.le_trans hD (by simp)) fun j ej => ?_
      rcases hown.2 with ⟨rfl, _⟩ | ⟨g, cap, cur, rfl, hb, _, _⟩
      · simp [Value.ownBlock] at ej
      · obtain rfl : g = j := by simpa [Value.ownBlock] using ej
        exact hb
    · refine (KeepsOthers.alloc W _).trans (KeepsOthers.of_grownBy h3 fun j o ej hj => ?_)
      rcases (hown.alloc (.cells C et)).2 with ⟨rfl, _⟩ | ⟨g, cap, cur, rfl, _, hgb, _⟩
      · simp [Value.ownBlock] at ej
      · obtain rfl : g = j := by simpa [Value.ownBlock] using ej
        rw [hgb] at hj; cases hj; rfl
theorem boxed_keep {W W' : World} {B k : Nat} {t : TypeId} {v : Value} {row : Option Nat} (h : Boxed W k t v) (hg : W.grownBy W' row) (hr : ∀ r, row = some r → B ≤ r ∧ ∃ o : Go.Obj, W.heap[r]? = some o ∧ o.isCells = false) : Boxed W' k t v :=
  h.kept hg (fun e => by
    obtain ⟨_, o, ho, hc⟩ := hr k e.symm
    rw [show W.heap[k]? = _ from h] at ho
    cases ho
    cases hc)
theorem loopI_own {β : Type} (D Bo : Nat) (T e : TypeId) (f : β → List Value) (Bs : Nat) (ts : TypeId) (us : Value) (Bq : Nat) (tq : TypeId) (uq : Value) (w1 : World) (B : Nat) (h1 : D ≤ w1.heap.size) (h2 : D ≤ B) :
    OwnFrom B (fun s W => (Bufd W D Bo T e (f s) ∧ Boxed W Bs ts us ∧ Boxed W Bq tq uq) ∧ Below D w1 W) := by
  rintro s W W' row ⟨⟨a1, a2, a3⟩, a4⟩ hg hr
  refine ⟨⟨(bufd_own D Bo T e f).from B s W W' row a1 hg hr, boxed_keep a2 hg hr, boxed_keep a3 hg hr⟩, ?_⟩
  exact a4.grown hg (Nat.le_trans h1 a4.size) fun k hk => Nat.le_trans h2 (hr k hk).1

end Go.Proofs.Ytopeidmafalklaa
