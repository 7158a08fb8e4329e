/-
  Plain: ways of a coder: tables of gains, step by step, and what is read back.
  Conditions: none.
-/
import Derived.Test.YtopeidmafalklaaWB
namespace Go.Proofs.Ytopeidmafalklaa
open Go.RowKit

/-- which states are reached, with which gain (up to the bits of a NaN), and from where -/
structure Tb where
  h : List Bool
  g : List (Option Nat)
  f : List Int
def gtO (x y : Option Nat) : Bool := ford .f32 x y == some Ordering.gt
theorem gt_fl (x y : Nat) : (FloatKind.f32.format.order x y == some Ordering.gt) = gtO (fl .f32 x) (fl .f32 y) := by rw [order_fl]; rfl
def newT (S : Nat) : Tb := ⟨List.replicate S false, List.replicate S (some 0), List.replicate S 0⟩
def startT (S : Nat) : Tb := ⟨(List.replicate S false).set 0 true, List.replicate S (some 0), List.replicate S 0⟩
/-- better than what is there -/
def betT (T : Tb) (to : Nat) (x : Option Nat) : Bool := !(T.h.getD to false) || gtO x (T.g.getD to none)
def updT (T : Tb) (to : Nat) (x : Option Nat) (s : Int) : Tb := if betT T to x then ⟨T.h.set to true, T.g.set to x, T.f.set to s⟩ else T
/-- the state behind a bit -/
def toS (M s : Nat) (b : Bool) : Nat := ((2 * (s : Int) + bitI b) % 2 ^ M).toNat
def edgeX (ms : List Int) (part : List Nat) (T0 : Tb) (s : Nat) (b : Bool) : Option Nat := gainO (T0.g.getD s none) (sentL ms (2 * (s : Int) + bitI b)) part ms.length
def edgeT (M : Nat) (ms : List Int) (part : List Nat) (last : Bool) (T0 : Tb) (s : Nat) (b : Bool) (T : Tb) : Tb :=
  if T0.h.getD s false && !(b && last) then updT T (toS M s b) (edgeX ms part T0 s b) s else T
def rowT (M : Nat) (ms : List Int) (part : List Nat) (last : Bool) (T0 : Tb) : Nat → Tb
  | 0 => newT (2 ^ M)
  | s + 1 => edgeT M ms part last T0 s true (edgeT M ms part last T0 s false (rowT M ms part last T0 s))
def partL (m : Nat) (soft : List Nat) (t : Nat) : List Nat := (soft.drop (t * m)).take m
def tabT (M : Nat) (ms : List Int) (soft : List Nat) (n : Nat) : Nat → Tb
  | 0 => startT (2 ^ M)
  | t + 1 => rowT M ms (partL ms.length soft t) (decide (n ≤ t)) (tabT M ms soft n t) (2 ^ M)
/-- the state, so many steps from the end -/
def backS (M : Nat) (ms : List Int) (soft : List Nat) (n : Nat) : Nat → Int
  | 0 => 0
  | k + 1 => (tabT M ms soft n (n + M - k)).f.getD (backS M ms soft n k).toNat 0
def wayBits (M : Nat) (ms : List Int) (soft : List Nat) (n : Nat) : List Bool := (List.range n).map fun t => backS M ms soft n (n + M - 1 - t) % 2 == 1
def wayGain (M : Nat) (ms : List Int) (soft : List Nat) (n : Nat) : Option Nat := (tabT M ms soft n (n + M)).g.getD 0 none
/-! sizes -/
structure Sz (S : Nat) (T : Tb) : Prop where
  h : T.h.length = S
  g : T.g.length = S
  f : T.f.length = S
  b : ∀ x ∈ T.f, 0 ≤ x ∧ x < S
theorem sz_new {S : Nat} (h : 1 ≤ S) : Sz S (newT S) := ⟨by simp [newT], by simp [newT], by simp [newT], fun x hx => by
  have := List.eq_of_mem_replicate (show x ∈ List.replicate S (0 : Int) from hx)
  omega⟩
theorem sz_start {S : Nat} (h : 1 ≤ S) : Sz S (startT S) := ⟨by simp [startT], by simp [startT], by simp [startT], fun x hx => by
  have := List.eq_of_mem_replicate (show x ∈ List.replicate S (0 : Int) from hx)
  omega⟩
theorem sz_upd {S : Nat} {T : Tb} (h : Sz S T) (to : Nat) (x : Option Nat) {s : Int} (h0 : 0 ≤ s) (h1 : s < S) : Sz S (updT T to x s) := by
  unfold updT
  split
  · refine ⟨by simp [h.h], by simp [h.g], by simp [h.f], fun y hy => ?_⟩
    rcases List.mem_or_eq_of_mem_set hy with h2 | h2
    · exact h.b y h2
    · rw [h2]; exact ⟨h0, h1⟩
  · exact h
theorem sz_edge {M S : Nat} {ms : List Int} {part : List Nat} {last : Bool} {T0 T : Tb} (h : Sz S T) {s : Nat} (hs : s < S) (b : Bool) : Sz S (edgeT M ms part last T0 s b T) := by
  unfold edgeT
  split
  · exact sz_upd h _ _ (by omega) (by omega)
  · exact h
theorem sz_row {M : Nat} {ms : List Int} {part : List Nat} {last : Bool} {T0 : Tb} : ∀ s, s ≤ 2 ^ M → Sz (2 ^ M) (rowT M ms part last T0 s)
  | 0, _ => sz_new (Nat.pow_pos (by decide))
  | s + 1, hs => sz_edge (sz_edge (sz_row s (by omega)) (by omega) _) (by omega) _
theorem sz_tab {M : Nat} {ms : List Int} {soft : List Nat} {n : Nat} : ∀ t, Sz (2 ^ M) (tabT M ms soft n t)
  | 0 => sz_start (Nat.pow_pos (by decide))
  | _ + 1 => sz_row _ (Nat.le_refl _)
theorem Sz.at_ {S : Nat} {T : Tb} (h : Sz S T) (hS : 1 ≤ S) (k : Nat) : 0 ≤ T.f.getD k 0 ∧ T.f.getD k 0 < S := by
  by_cases hk : k < T.f.length
  · have := h.b (T.f[k]) (List.getElem_mem hk)
    simpa [List.getD, hk] using this
  · have : T.f.getD k 0 = 0 := by simp [List.getD, hk]
    omega
theorem backS_bd {M : Nat} {ms : List Int} {soft : List Nat} {n : Nat} : ∀ k, 0 ≤ backS M ms soft n k ∧ backS M ms soft n k < ((2 ^ M : Nat) : Int)
  | 0 => ⟨Int.le_refl _, by have : 0 < 2 ^ M := Nat.pow_pos (by decide); show (0 : Int) < _; omega⟩
  | k + 1 => (sz_tab (M := M) (ms := ms) (soft := soft) (n := n) (n + M - k)).at_ (Nat.pow_pos (by decide)) _
theorem toS_lt {M s : Nat} (b : Bool) : toS M s b < 2 ^ M := by
  unfold toS
  have h0 : (0 : Int) < 2 ^ M := Int.pow_pos (by decide)
  have h1 := Int.emod_nonneg (2 * (s : Int) + bitI b) (Int.ne_of_gt h0)
  have h2 := Int.emod_lt_of_pos (2 * (s : Int) + bitI b) h0
  have h3 : ((2 ^ M : Nat) : Int) = 2 ^ M := by push_cast; rfl
  omega
theorem partL_get {m : Nat} {soft : List Nat} {t i : Nat} (hi : i < m) : (partL m soft t).getD i 0 = soft.getD (t * m + i) 0 := by
  unfold partL
  simp [List.getD, hi]
theorem partL_len {m : Nat} {soft : List Nat} {t : Nat} (h : (t + 1) * m ≤ soft.length) : (partL m soft t).length = m := by
  unfold partL
  have : (t + 1) * m = t * m + m := Nat.succ_mul t m
  simp
  omega

end Go.Proofs.Ytopeidmafalklaa
