/-
  Contracts: a bunch of the least weight is taken out of a row of the call's own.
  Conditions: 1 to 1048576 bunches.
-/
import Derived.Test.YtkmfjadlobpbkaaMH
namespace Go.Proofs.Ytkmfjadlobpbkaa
open Go.RowKit Go.Shelf Go.Sort Go.Lib

/-- weights and what goes with them, cell by cell -/
def fl2 (ts : List (Int × Value)) : List Value := ts.flatMap fun t => [.int .i64 t.1, t.2]
theorem fl2_len : ∀ ts : List (Int × Value), (fl2 ts).length = ts.length * 2
  | [] => rfl
  | t :: ts => by
    show (fl2 ts).length + 2 = _
    rw [fl2_len ts, List.length_cons]; omega
theorem fl2_take : ∀ (ts : List (Int × Value)) (i : Nat), (fl2 ts).take (i * 2) = fl2 (ts.take i)
  | [], i => by simp [fl2]
  | t :: ts, 0 => by simp [fl2]
  | t :: ts, i + 1 => by
    have h := fl2_take ts i
    show (Value.int .i64 t.1 :: t.2 :: fl2 ts).take _ = Value.int .i64 t.1 :: t.2 :: fl2 (ts.take i)
    rw [show (i + 1) * 2 = i * 2 + 1 + 1 by omega, List.take_succ_cons, List.take_succ_cons, h]
theorem fl2_drop : ∀ (ts : List (Int × Value)) (i : Nat), (fl2 ts).drop (i * 2) = fl2 (ts.drop i)
  | [], i => by simp [fl2]
  | t :: ts, 0 => by simp
  | t :: ts, i + 1 => by
    have h := fl2_drop ts i
    show (Value.int .i64 t.1 :: t.2 :: fl2 ts).drop _ = fl2 (ts.drop i)
    rw [show (i + 1) * 2 = i * 2 + 1 + 1 by omega, List.drop_succ_cons, List.drop_succ_cons, h]
theorem fl2_app (ts us : List (Int × Value)) : fl2 (ts ++ us) = fl2 ts ++ fl2 us := by simp [fl2]
theorem fl2_erase (ts : List (Int × Value)) (i : Nat) : (fl2 ts).take (i * 2) ++ (fl2 ts).drop ((i + 1) * 2) = fl2 (ts.eraseIdx i) := by
  rw [fl2_take, fl2_drop, ← fl2_app, List.eraseIdx_eq_take_drop_succ]
theorem fl2_at : ∀ (ts : List (Int × Value)) (i : Nat) (h : i < ts.length), (fl2 ts)[i * 2]? = some (.int .i64 ts[i].1) ∧ (fl2 ts)[i * 2 + 1]? = some ts[i].2
  | t :: ts, 0, _ => ⟨rfl, rfl⟩
  | t :: ts, i + 1, h => by
    have := fl2_at ts i (by simpa using h)
    show (Value.int .i64 t.1 :: t.2 :: fl2 ts)[_]? = _ ∧ (Value.int .i64 t.1 :: t.2 :: fl2 ts)[_]? = _
    rw [show (i + 1) * 2 = i * 2 + 1 + 1 by omega]
    simpa using this
theorem fl2_one (ts : List (Int × Value)) (h : ∀ t ∈ ts, t.2.oneCell' = true) : ∀ u ∈ fl2 ts, u.oneCell' = true := by
  intro u hu
  obtain ⟨t, ht, hut⟩ := List.mem_flatMap.1 hu
  rcases List.mem_cons.1 hut with rfl | hut
  · rfl
  · rcases List.mem_cons.1 hut with rfl | hut
    · exact h t ht
    · cases hut

theorem grown_of_below {w w' : World} (h : Below w.heap.size w w') (row : Option Nat) : w.grownBy w' row := ⟨h.os, h.tape, h.output, h.size, fun k hk _ => h.block k hk⟩
theorem grown_of_below2 {w w' : World} {B : Nat} (h : Below B w w') (hB : w.heap.size ≤ B) (row : Option Nat) : w.grownBy w' row := ⟨h.os, h.tape, h.output, h.size, fun k hk _ => h.block k (by omega)⟩
theorem grown_trans {a b c : World} {row : Option Nat} (h : a.grownBy b row) (k : b.grownBy c row) : a.grownBy c row :=
  ⟨k.os.trans h.os, k.tape.trans h.tape, k.output.trans h.output, Nat.le_trans h.size k.size, fun i hi hn => (k.block i (Nat.lt_of_lt_of_le hi h.size) hn).trans (h.block i hi hn)⟩
theorem grown_setAt (W : World) (b o : Nat) (v : Value) : W.grownBy (W.setCell ⟨b, o, none⟩ v) (some b) :=
  ⟨rfl, rfl, rfl, (by simp), fun k _ hk => Below.heap_setCell _ _ _ k (fun e => hk (by rw [e]))⟩
theorem grown_setNew {w w' : World} {row : Option Nat} (h : w.grownBy w' row) {b : Nat} (hb : w.heap.size ≤ b) (o : Nat) (v : Value) : w.grownBy (w'.setCell ⟨b, o, none⟩ v) row :=
  ⟨h.os, h.tape, h.output, Nat.le_trans h.size (by simp), fun k hk hn => (Below.heap_setCell _ _ _ k (fun e => by simp only [] at e; omega)).trans (h.block k hk hn)⟩
theorem heap_putRow {w : World} {g n : Nat} {cur : Array Value} {e : TypeId} {fr : Nat × Nat} (d : Array Value) (hb : w.heap[g]? = some (.cells cur e fr)) :
    (putRow id (Sort.ahead w n) g 0 d).heap[g]? = some (.cells (putCells id 0 d cur) e fr) := by
  simp [putRow, mapBlock, Sort.ahead, Array.getElem?_modify, hb, onCells]
theorem grown_putRow {w : World} {g n : Nat} (d : Array Value) : w.grownBy (putRow id (Sort.ahead w n) g 0 d) (some g) := by
  refine ⟨rfl, rfl, rfl, by simp, fun k hk hne => ?_⟩
  have : g ≠ k := fun e => hne (by rw [e])
  simp [putRow, mapBlock, Sort.ahead, Array.getElem?_modify, this]
theorem take_putCells (cur : Array Value) (ts : List Value) (h : ts.length ≤ cur.size) : (putCells id 0 ts.toArray cur).toList.take ts.length = ts := by
  apply List.ext_getElem?
  intro j
  by_cases hj : j < ts.length
  · rw [List.getElem?_take_of_lt hj, Array.getElem?_toList]
    simp [putCells, hj, show j < cur.size by omega]
  · rw [List.getElem?_take_eq_none (by omega), List.getElem?_eq_none (by omega)]

theorem holds_of_own {w : World} {base : Nat} {e : TypeId} {size b n cap : Nat} {xs : List Value} (h : w.ownsRow base e size (.slice (some ⟨b, 0, none⟩) n cap) n xs) : Holds id w b 0 xs.toArray := by
  rcases h.2 with ⟨hn, _⟩ | ⟨g, cap', cur, hv, hbg, hg, hnc, hm, hs, ht⟩
  · cases hn
  · injection hv with hv1 hv2 hv3
    injection hv1 with hv1
    injection hv1 with hv1
    subst hv1
    intro j hj
    have hj' : j < xs.length := by simpa using hj
    refine ⟨?_, by simp [World.frozen?, hg]⟩
    have h1 : (cur.toList.take (n * size))[j]? = xs[j]? := by rw [ht]
    have hl := h.1
    rw [List.getElem?_take_of_lt (by omega)] at h1
    simp only [World.cell?, hg, Nat.zero_add]
    simp only [Option.isSome_none, Bool.false_eq_true, if_false]
    rw [← Array.getElem?_toList, h1]
    simp [hj']



/-- the slots of what is a bunch list -/
theorem bun_of_own {w : World} {base b n cap : Nat} {ts : List (Int × Value)} (h : w.ownsRow base 48 2 (.slice (some ⟨b, 0, none⟩) n cap) n (fl2 ts)) : Bun w w.heap.size b 0 (ts.map Prod.fst) (ts.map Prod.snd) := by
  have hl := h.1
  rw [fl2_len] at hl
  refine ⟨(h.lt b rfl).2, by simp, fun i hi => ?_⟩
  have hi' : i < ts.length := by simpa using hi
  have h2 := fl2_at ts i hi'
  have k0 := World.ownsRow.cellAt h (i * 2) (by omega)
  have k1 := World.ownsRow.cellAt h (i * 2 + 1) (by omega)
  rw [h2.1] at k0
  rw [h2.2] at k1
  rw [Nat.zero_add] 
  refine ⟨k0.trans ?_, k1.trans ?_⟩ <;> simp [List.getD, hi']

end Go.Proofs.Ytkmfjadlobpbkaa
