/-
  Memory in the walk: what a slice holds, said of its cells; rows that a call owns; lists.
  Conditions: none.
-/
import Derived.Test.YtcghalcpbpfkmaaF
import Derived.WalkKit
import Derived.WalkSpells
import Derived.WalkLawsBesides
import Derived.Deep.QuietTactic
import Derived.BigQuiet
import Derived.Lib.Hide
import Derived.Deep.AppendLies
namespace Go.Proofs.Ytcghalcpbpfkmaa
open Go.RowKit

theorem run_store_float (P : Program) (w : World) (a : Addr) (m : Mode) (k : FloatKind) (b : Nat) : (store a (.float k b) m).run P w = stored P w a (.float k b) m := run_store P w a _ m rfl
theorem run_store_complex (P : Program) (w : World) (a : Addr) (m : Mode) (k : FloatKind) (x y : Nat) : (store a (.complex k x y) m).run P w = stored P w a (.complex k x y) m := run_store P w a _ m rfl

attribute [go_sem] run_store_float run_store_complex

/-- a slice's address, in a block below B, at which the cells xs lie -/
def Sl (w : World) (B : Nat) (A : Option Addr) (xs : List Value) : Prop :=
  xs = [] ∨ ∃ b off, A = some ⟨b, off, none⟩ ∧ b < B ∧ ∀ j u, xs[j]? = some u → w.cell? ⟨b, off + j, none⟩ = some u

section
variable {w w' : World} {B B' : Nat} {A : Option Addr} {xs : List Value}
theorem Sl.nil : Sl w B A [] := .inl rfl
theorem Sl.at_ (h : Sl w B A xs) {k : Nat} (hk : k < xs.length) : ∃ b off, A = some ⟨b, off, none⟩ ∧ b < B ∧ ∀ j u, xs[j]? = some u → w.cell? ⟨b, off + j, none⟩ = some u := by
  rcases h with rfl | h
  · simp at hk
  · exact h
theorem Sl.keep (h : Sl w B A xs) (hk : ∀ p : Addr, p.block < B → w'.cell? p = w.cell? p) : Sl w' B A xs := by
  rcases h with rfl | ⟨b, off, e, hb, hc⟩
  · exact .inl rfl
  · exact .inr ⟨b, off, e, hb, fun j u hu => (hk ⟨b, off + j, none⟩ hb).trans (hc j u hu)⟩
theorem Sl.more (h : Sl w B A xs) (hB : B ≤ B') : Sl w B' A xs := by
  rcases h with rfl | ⟨b, off, e, hb, hc⟩
  · exact .inl rfl
  · exact .inr ⟨b, off, e, Nat.lt_of_lt_of_le hb hB, hc⟩
theorem Sl.below (h : Sl w B A xs) (hb : Below B w w') : Sl w' B A xs := h.keep fun _ hp => hb.cell hp
theorem Sl.drewN (h : Sl w B A xs) (n : Nat) : Sl (w.drewN n) B A xs := h
theorem Sl.alloc (h : Sl w B A xs) (hB : B ≤ w.heap.size) (o : Obj) : Sl (w.alloc o) B A xs := h.below ((Below.refl _ _).alloc hB o)
theorem Sl.grown {row : Option Nat} (h : Sl w B A xs) (hg : w.grownBy w' row) (hB : B ≤ w.heap.size) (hr : ∀ k, row = some k → B ≤ k) : Sl w' B A xs := h.below ((Below.refl _ _).grown hg hB hr)
end

/-- the cell at an index, its value written -/
theorem Sl.get {w : World} {B : Nat} {A : Option Addr} {α : Type} {f : α → Value} {xs : List α} (h : Sl w B A (xs.map f)) (k : Nat) (hk : k < xs.length) :
    ∃ b off, A = some ⟨b, off, none⟩ ∧ b < B ∧ w.cell? ⟨b, off + k, none⟩ = some (f xs[k]) := by
  obtain ⟨b, off, e, hb, hc⟩ := h.at_ (k := k) (by simpa using hk)
  exact ⟨b, off, e, hb, hc k _ (by simp [hk])⟩

theorem below_drewN {B : Nat} {a w : World} (h : Below B a w) (n : Nat) : Below B a (w.drewN n) := ⟨h.os, h.tape, h.output, h.size, h.block⟩
theorem below_of_drewN (B : Nat) (w : World) (n : Nat) : Below B w (w.drewN n) := below_drewN (Below.refl _ _) n

/-- a row of one-cell elements that the call owns -/
abbrev Ow (w : World) (base : Nat) (e : TypeId) (v : Value) (xs : List Value) : Prop := w.ownsRow base e 1 v xs.length xs

theorem Ow.sl {w : World} {base : Nat} {e : TypeId} {v : Value} {xs : List Value} (h : Ow w base e v xs) : ∃ A cap, v = .slice A xs.length cap ∧ xs.length ≤ cap ∧ Sl w w.heap.size A xs := by
  rcases h.2 with ⟨rfl, h0⟩ | ⟨g, cap, cur, rfl, hb, hg, hc, hm, hs, ht⟩
  · have : xs = [] := List.eq_nil_of_length_eq_zero h0
    subst this
    exact ⟨none, 0, rfl, Nat.le_refl _, .inl rfl⟩
  · refine ⟨some ⟨g, 0, none⟩, cap, rfl, hc, .inr ⟨g, 0, rfl, (Array.getElem?_eq_some_iff.1 hg).1, fun j u hu => ?_⟩⟩
    have h1 := World.ownsRow.cellAt h j (by simpa using (List.getElem?_eq_some_iff.1 hu).1)
    rw [Nat.zero_add, h1, hu]

theorem own_below {w w' : World} {base : Nat} {e : TypeId} {size n : Nat} {v : Value} {xs : List Value} {B : Nat} (h : w.ownsRow base e size v n xs) (hb : Below B w w') (hB : w.heap.size ≤ B) : w'.ownsRow base e size v n xs := by
  refine ⟨h.1, ?_⟩
  rcases h.2 with hn | ⟨g, cap, cur, rfl, hbg, hg, rest⟩
  · exact .inl hn
  · refine .inr ⟨g, cap, cur, rfl, hbg, ?_, rest⟩
    rw [hb.block g (Nat.lt_of_lt_of_le (Array.getElem?_eq_some_iff.1 hg).1 hB)]
    exact hg
theorem own_base {w : World} {base base' : Nat} {e : TypeId} {size n : Nat} {v : Value} {xs : List Value} (h : w.ownsRow base e size v n xs) (hB : base' ≤ base) : w.ownsRow base' e size v n xs := by
  refine ⟨h.1, ?_⟩
  rcases h.2 with hn | ⟨g, cap, cur, rfl, hbg, hg, rest⟩
  · exact .inl hn
  · exact .inr ⟨g, cap, cur, rfl, Nat.le_trans hB hbg, hg, rest⟩

/-- a row that another call owns stays as it is where only a row from a later base on is written -/
theorem own_other {w w' : World} {base : Nat} {e : TypeId} {size n : Nat} {v : Value} {xs : List Value} {row : Option Nat} (h : w.ownsRow base e size v n xs) (hg : w.grownBy w' row) (hr : ∀ k, row = some k → ∀ j, v.ownBlock = some j → j ≠ k) : w'.ownsRow base e size v n xs :=
  h.kept hg (by
    rcases hv : v.ownBlock with _ | j
    · exact .inl rfl
    · refine .inr fun he => ?_
      cases hrow : row with
      | none => rw [hrow] at he; cases he
      | some k => rw [hrow] at he; injection he with he; exact hr k hrow j hv he)

theorem fill_set {α : Type} (xs : List α) (z : α) (n k : Nat) (hl : xs.length = n) (hk : k < n) :
    (List.take k xs ++ List.replicate (n - k) z).set k (xs[k]'(by omega)) = List.take (k + 1) xs ++ List.replicate (n - (k + 1)) z := by
  rw [List.take_succ_eq_append_getElem (by omega), List.set_append_right _ _ (by simp; omega), List.append_assoc]
  congr 1
  have : n - k = (n - (k+1)) + 1 := by omega
  have h2 : k - (List.take k xs).length = 0 := by simp; omega
  rw [h2, this, List.replicate_succ]
  rfl

theorem take_all {α : Type} {xs : List α} {n : Nat} (h : xs.length = n) : xs.take n = xs := List.take_of_length_le (Nat.le_of_eq h)

theorem ret_bool {a b : Bool} (h : a = b) : Ending.returned (.bool a) = .returned (.bool b) := by rw [h]
theorem ret_int {k : IntKind} {a b : Int} (h : a = b) : Ending.returned (.int k a) = .returned (.int k b) := by rw [h]

/-- a quiet call's contract, for a caller that only asks what was there -/
theorem calls_grow {P : Program} {f : FuncId} {args : Array Value} {w : World} {E : Ending → Prop} (h : Calls P f args w fun e w' => E e ∧ ∃ n, w' = w.drewN n) : Calls P f args w fun e w' => E e ∧ Below w.heap.size w w' :=
  h.mono fun _ _ ⟨he, n, hn⟩ => ⟨he, by rw [hn]; exact below_of_drewN _ _ _⟩

theorem sl_of_own {w : World} {base : Nat} {e : TypeId} {A : Option Addr} {n cap : Nat} {xs : List Value} (h : w.ownsRow base e 1 (.slice A n cap) n xs) : Sl w w.heap.size A xs := by
  have hl : xs.length = n := by simpa using h.1
  subst hl
  obtain ⟨A', cap', hv, _, hs⟩ := Ow.sl (v := .slice A xs.length cap) h
  injection hv with h1
  rw [h1]
  exact hs

theorem Ow.opn {w : World} {base : Nat} {e : TypeId} {v : Value} {α : Type} {f : α → Value} {xs : List α} (h : Ow w base e v (xs.map f)) : ∃ A cap, v = .slice A xs.length cap ∧ w.ownsRow base e 1 (.slice A xs.length cap) xs.length (xs.map f) := by
  obtain ⟨A, cap, hv, _, _⟩ := h.sl
  subst hv
  refine ⟨A, cap, by rw [List.length_map], ?_⟩
  unfold Ow at h
  simpa using h

/-- the blocks from a to b -/
def In (v : Value) (a b : Nat) : Prop := ∀ g, v.ownBlock = some g → a ≤ g ∧ g < b
theorem own_in {w : World} {base : Nat} {e : TypeId} {size n : Nat} {v : Value} {xs : List Value} (h : w.ownsRow base e size v n xs) : In v base w.heap.size := h.lt
/-- a row stays as it is where another one is written -/
theorem own_apart {w w' : World} {base : Nat} {e : TypeId} {size n : Nat} {v u : Value} {xs : List Value} (h : w.ownsRow base e size v n xs) (hg : w.grownBy w' u.ownBlock) {a b c d : Nat} (hv : In v a b) (hu : In u c d) (hs : b ≤ c ∨ d ≤ a) : w'.ownsRow base e size v n xs := by
  refine h.kept hg ?_
  cases hb : v.ownBlock with
  | none => exact .inl rfl
  | some g =>
    refine .inr fun he => ?_
    have h1 := hv g hb
    have h2 := hu g he.symm
    omega
theorem below_marked {B : Nat} {w w1 w' : World} {u : Value} (h : Below B w w1) (hg : w1.grownBy w' u.ownBlock) {c d : Nat} (hu : In u c d) (hc : B ≤ c) (hz : B ≤ w1.heap.size) : Below B w w' :=
  h.grown hg hz fun k hk => Nat.le_trans hc (hu k hk).1

end Go.Proofs.Ytcghalcpbpfkmaa
