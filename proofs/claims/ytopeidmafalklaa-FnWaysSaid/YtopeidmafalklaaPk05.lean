/-
  Plain: blocks that hold logarithms of sums (a flag and a number for each state), and blocks that hold moves; where they stay.
  Conditions: none.
  Under way: the best way, of the reference.
  Conditions: as each theorem says.
  Contract: the moves of a place, of the program.
  Conditions: a coder of one to four bits of memory and one to four masks; a part as long as the masks are many.
  Contract: half of a gain, of the reference.
  Conditions: a coder of one to four masks; a place of the soft numbers.
  Plain: a block that holds picks (a state, its gain, from where), and where it stays.
  Conditions: none.
  Contract: the best way, of the program.
  Conditions: lengths at most 1048576.
  Contract: the best way, of the reference.
  Conditions: lengths at most 1048576.
  Plain: rows of tables of logarithms; what both functions return.
  Conditions: none.
  Plain: tables of logarithms of sums over ways: backward, the sums of a bit's sides, and what is told.
  Conditions: as each theorem says.
-/
import Derived.Test.YtopeidmafalklaaPk04
import Derived.Lib.Hide
import Derived.Deep.RegionHeld3
import Derived.OwnWalk

namespace Go.Proofs.Ytopeidmafalklaa
open Go.RowKit Go.Shelf

/-- a block with a table of logarithms of sums -/
def SRow (e : TypeId) (W : World) (b S : Nat) (T : List St) : Prop :=
  (∃ cs : Array Value, Obj W b e cs ∧ cs.size = S * 2 ∧ ∀ s, s < S → ∃ h x, cs[s * 2]? = some (.bool h) ∧ cs[s * 2 + 1]? = some (.float .f32 x) ∧ stO h x = T.getD s none) ∧ T.length = S
theorem SRow.lt {e : TypeId} {W : World} {b S : Nat} {T : List St} (h : SRow e W b S T) : b < W.heap.size := h.1.choose_spec.1.lt
theorem SRow.cells {e : TypeId} {W : World} {b S : Nat} {T : List St} (h : SRow e W b S T) {s : Nat} (hs : s < S) :
    ∃ f x, W.cell? ⟨b, s * 2, none⟩ = some (.bool f) ∧ W.cell? ⟨b, s * 2 + 1, none⟩ = some (.float .f32 x) ∧ stO f x = T.getD s none := by
  obtain ⟨⟨cs, hO, _, hc⟩, _⟩ := h
  obtain ⟨f, x, h1, h2, h3⟩ := hc s hs
  exact ⟨f, x, (hO.cell _).trans h1, (hO.cell _).trans h2, h3⟩
theorem SRow.frz {e : TypeId} {W : World} {b S : Nat} {T : List St} (h : SRow e W b S T) (k : Nat) : W.frozen? ⟨b, k, none⟩ = false := by
  obtain ⟨⟨cs, hO, _⟩, _⟩ := h
  exact hO.frozen k
theorem SRow.below {e : TypeId} {W W' : World} {b D S : Nat} {T : List St} (h : SRow e W b S T) (hb : Below D W W') (hD : b < D) : SRow e W' b S T := by
  obtain ⟨⟨cs, hO, h2⟩, h3⟩ := h
  exact ⟨⟨cs, hO.below hb hD, h2⟩, h3⟩
theorem SRow.keep {e : TypeId} {W W' : World} {row : Option Nat} {b S : Nat} {T : List St} (h : SRow e W b S T) (hg : W.grownBy W' row) (hne : some b ≠ row) : SRow e W' b S T := by
  obtain ⟨⟨cs, hO, h2⟩, h3⟩ := h
  exact ⟨⟨cs, hO.kept hg hne, h2⟩, h3⟩
theorem SRow.kept {W W' : World} {b base n size : Nat} {e e2 : TypeId} {S : Nat} {T : List St} {xs : List Value} {v : Value} (h : SRow e W b S T) (hr : W.ownsRow base e2 size v n xs) (hne : e ≠ e2) (hg : W.grownBy W' v.ownBlock) : SRow e W' b S T := by
  obtain ⟨⟨cs, hO, h2⟩, h3⟩ := h
  exact ⟨⟨cs, hO.kept hg (Obj.not_row hO hne hr), h2⟩, h3⟩
theorem SRow.alloc {e : TypeId} {W : World} {b S : Nat} {T : List St} (h : SRow e W b S T) (o : Go.Obj) : SRow e (W.alloc o) b S T := by
  obtain ⟨⟨cs, hO, h2⟩, h3⟩ := h
  exact ⟨⟨cs, hO.alloc o, h2⟩, h3⟩
theorem SRow.drewN {e : TypeId} {W : World} {b S : Nat} {T : List St} (h : SRow e W b S T) (k : Nat) : SRow e (W.drewN k) b S T := h
theorem SRow.far {e : TypeId} {W : World} {b c S : Nat} {T : List St} (h : SRow e W b S T) (hne : b ≠ c) (k : Nat) (v : Value) : SRow e (W.setCell ⟨c, k, none⟩ v) b S T := by
  obtain ⟨⟨cs, hO, h2⟩, h3⟩ := h
  exact ⟨⟨cs, hO.far hne k v, h2⟩, h3⟩
theorem SRow.put {e : TypeId} {W : World} {b S : Nat} {T : List St} (h : SRow e W b S T) {to : Nat} (hto : to < S) (f : Bool) (v : Nat) (x : St) (hv : stO f v = x) :
    SRow e ((W.setCell ⟨b, to * 2, none⟩ (.bool f)).setCell ⟨b, to * 2 + 1, none⟩ (.float .f32 v)) b S (T.set to x) := by
  obtain ⟨⟨cs, hO, h2, h3⟩, h4⟩ := h
  refine ⟨⟨_, (hO.set _ _).set _ _, by simp [h2], fun i hi => ?_⟩, by rw [List.length_set]; exact h4⟩
  obtain ⟨f', x', k1, k2, k3⟩ := h3 i hi
  by_cases c : to = i
  · subst c
    refine ⟨f, v, ?_, ?_, ?_⟩
    · rw [Array.getElem?_setIfInBounds_ne (by omega), Array.getElem?_setIfInBounds_self_of_lt (by omega)]
    · rw [Array.getElem?_setIfInBounds_self_of_lt (by simp; omega)]
    · rw [hv]; simp [List.getD, h4, hto]
  · refine ⟨f', x', ?_, ?_, ?_⟩
    · rw [Array.getElem?_setIfInBounds_ne (by omega), Array.getElem?_setIfInBounds_ne (by omega)]; exact k1
    · rw [Array.getElem?_setIfInBounds_ne (by omega), Array.getElem?_setIfInBounds_ne (by omega)]; exact k2
    · rw [k3]; simp [List.getD, List.getElem?_set_ne c]
theorem sums_made {S s : Nat} (hs : s < S) : (madeCells #[Value.bool false, .float .f32 0] (S * 2))[s * 2]? = some (.bool false) ∧ (madeCells #[Value.bool false, .float .f32 0] (S * 2))[s * 2 + 1]? = some (.float .f32 0) := by
  unfold madeCells
  have e1 : (s * 2 + 1) % 2 = 1 := by omega
  refine ⟨?_, ?_⟩
  · simp [show s * 2 < S * 2 by omega]
  · simp [show s * 2 + 1 < S * 2 by omega, e1]
theorem SRow.new (e : TypeId) (W : World) (S : Nat) : SRow e (W.alloc (.cells (madeCells #[Value.bool false, .float .f32 0] (S * 2)) e)) W.heap.size S (noneR S) := by
  refine ⟨⟨_, Obj.new _ _ _, size_madeCells _ _, fun s hs => ?_⟩, List.length_replicate ..⟩
  obtain ⟨h1, h2⟩ := sums_made hs
  exact ⟨false, 0, h1, h2, by simp [noneR, List.getD, hs, stO]⟩
/-- the first is there (its number is nought already) -/
theorem SRow.start {e : TypeId} {W : World} {b S : Nat} (h : ∃ cs : Array Value, Obj W b e cs ∧ cs.size = S * 2 ∧ ∀ s, s < S → cs[s * 2]? = some (.bool false) ∧ cs[s * 2 + 1]? = some (.float .f32 0)) (hS : 1 ≤ S) : SRow e (W.setCell ⟨b, 0, none⟩ (.bool true)) b S (oneR S) := by
  obtain ⟨cs, hO, h2, h3⟩ := h
  refine ⟨⟨_, hO.set _ _, by simp [h2], fun i hi => ?_⟩, oneR_len S⟩
  obtain ⟨k1, k2⟩ := h3 i hi
  by_cases c : i = 0
  · subst c
    refine ⟨true, 0, ?_, ?_, ?_⟩
    · rw [Array.getElem?_setIfInBounds_self_of_lt (by omega)]
    · rw [Array.getElem?_setIfInBounds_ne (by omega)]; exact k2
    · simp [oneR, List.getD, hi, stO, fl0]
  · refine ⟨false, 0, ?_, ?_, ?_⟩
    · rw [Array.getElem?_setIfInBounds_ne (by omega)]; exact k1
    · rw [Array.getElem?_setIfInBounds_ne (by omega)]; exact k2
    · unfold oneR
      rw [List.getD, List.getElem?_set_ne (show 0 ≠ i by omega)]
      simp [hi, stO]
theorem sums_new (e : TypeId) (W : World) (S : Nat) : ∃ cs : Array Value, Obj (W.alloc (.cells (madeCells #[Value.bool false, .float .f32 0] (S * 2)) e)) W.heap.size e cs ∧ cs.size = S * 2 ∧ ∀ s, s < S → cs[s * 2]? = some (.bool false) ∧ cs[s * 2 + 1]? = some (.float .f32 0) :=
  ⟨_, Obj.new _ _ _, size_madeCells _ _, fun _ hs => sums_made hs⟩

theorem infoLikely : (Try.prog.info? 87).map (fun i => (i.zero, i.size, i.bytes)) = some (some (.agg #[.bool false, .float .f32 0]), 2, 8) := by kernel_rfl
theorem infoSum : (Try.prog.info? 71).map (fun i => (i.zero, i.size, i.bytes)) = some (some (.agg #[.bool false, .float .f32 0]), 2, 8) := by kernel_rfl
theorem infoMoves : (Try.prog.info? 94).map (fun i => (i.zero, i.size, i.bytes)) = some (some (.agg #[.bool false, .int .i64 0, .float .f32 0, .bool false, .int .i64 0, .float .f32 0]), 6, 48) := by kernel_rfl

end Go.Proofs.Ytopeidmafalklaa


namespace Go.Proofs.Ytopeidmafalklaa
open Go.RowKit

theorem infoRow : (Try.prog.info? 22).map (fun i => (i.zero, i.size, i.bytes)) = some (some (.slice none 0 0), 1, 24) := by kernel_rfl

theorem sl_part {w : World} {B b off : Nat} {xs : List Value} (h : Sl w B (some ⟨b, off, none⟩) xs) (k n : Nat) : Sl w B (some ⟨b, off + k, none⟩) ((xs.drop k).take n) := by
  rcases h with rfl | ⟨b', off', e, hb, hc⟩
  · simp [Sl]
  · obtain ⟨rfl, rfl⟩ : b = b' ∧ off = off' := by simpa using e
    refine .inr ⟨b, off + k, rfl, hb, fun j u hu => ?_⟩
    have h2 := hc (k + j) u (by
      rw [List.getElem?_take] at hu
      split at hu
      · rw [List.getElem?_drop] at hu; exact hu
      · cases hu)
    rw [Nat.add_assoc]
    exact h2
theorem add_atW (g j : Nat) : (⟨g, 0, none⟩ : Addr).add j = ⟨g, j, none⟩ := by unfold Addr.add; split <;> simp_all
theorem appGW {P : Program} {t e : TypeId} (ht : P.underlying t = some (.slice e)) {z : Value} {bytes : Nat} (hi : (P.info? e).map (fun i => (i.zero, i.size, i.bytes)) = some (some z, 1, bytes)) (hz : z.cells.size = 1) (hby : bytes ≤ 64)
    {w : World} {ops : Array Oper} {rest : List Oper} {o : Oper} {a : Act} {Q : Exit → Act → World → Prop} (hgd : o.guard = none) (s x : Operand)
    (ho : o.op = .call { callee := .builtin .append, args := #[s, x], argTypes := #[t, t] }) (base : Nat) (v : Value) (xs : List Value) (hs : a.eval s = v) (hown : Ow w base e v xs)
    (g c : Nat) (u : Value) (hx : a.eval x = .slice (some ⟨g, 0, none⟩) 1 c) (hc : w.cell? ⟨g, 0, none⟩ = some u) (h1 : u.oneCell' = true)
    (hlen : xs.length + 1 ≤ 1099511627776) (hbase : base ≤ w.heap.size)
    (h : ∀ v' w', Ow w' base e v' (xs ++ [u]) → w.grownBy w' v.ownBlock → wpList P ops Q rest (a.put o.dst v') w') : wpList P ops Q (o :: rest) a w := by
  obtain ⟨i, hi1, hi2, hi3, hi4⟩ := info_ok hi
  refine wpList_append_own (P := P) w hgd s x t ho base e i z 1 bytes ht hi1 hi2 hi3 hi4 hz (by decide) v xs.length xs hs hown ⟨g, 0, none⟩ 1 c [u] hx (by simp) ?_ (by simpa using h1) ?_ ?_ hbase ?_
  · intro j u' hu
    rw [add_atW]
    cases j with
    | zero => cases hu; exact hc
    | succ j => cases hu
  · unfold maxLen; omega
  · have h2 : (xs.length + 1) * bytes ≤ 1099511627776 * 64 := Nat.mul_le_mul hlen hby
    omega
  · intro v' w' h2 h3 _
    refine h v' w' ?_ h3
    unfold Ow
    rw [List.length_append, List.length_singleton]
    exact h2
/-- what the loop over steps keeps: the table of the step before, and from where each state was reached in all steps so far -/
def WayRel (w : World) (S : Nat) (T : Tb) (Fs : List (List Int)) (v10 v11 v12 : Value) (wr : World) : Prop :=
  ∃ (b10 b11 : Nat) (gs bs : List Nat), w.heap.size ≤ b10 ∧ w.heap.size ≤ b11 ∧ v10 = .slice (some ⟨b10, 0, none⟩) S S ∧ v11 = .slice (some ⟨b11, 0, none⟩) S S ∧
    Row wr b10 4 (T.h.map Value.bool) ∧ gs.map (fl .f32) = T.g ∧ Row wr b11 46 (gs.map (Value.float .f32)) ∧
    Ow wr w.heap.size 22 v12 (bs.map fun g => Value.slice (some ⟨g, 0, none⟩) S S) ∧ bs.length = Fs.length ∧
    (∀ i, i < bs.length → w.heap.size ≤ bs.getD i 0 ∧ Row wr (bs.getD i 0) 2 ((Fs.getD i []).map (Value.int .i64))) ∧ Below w.heap.size w wr
theorem WayRel.drewN {w : World} {S : Nat} {T : Tb} {Fs : List (List Int)} {v10 v11 v12 : Value} {wr : World} (h : WayRel w S T Fs v10 v11 v12 wr) (k : Nat) : WayRel w S T Fs v10 v11 v12 (wr.drewN k) := by
  obtain ⟨b10, b11, gs, bs, h1, h2, h3, h4, h5, h6, h7, h8, h9, h10, h11⟩ := h
  exact ⟨b10, b11, gs, bs, h1, h2, h3, h4, h5, h6, h7, h8, h9, h10, below_drewN h11 k⟩

/-- what the loop over states keeps: the rows of the next table -/
def MidRel (B : Nat) (T : Tb) (ns : List Nat) (W : World) : Prop :=
  (Row W B 46 (ns.map (Value.float .f32)) ∧ ns.map (fl .f32) = T.g) ∧ Row W (B + 1) 4 (T.h.map Value.bool) ∧ Row W (B + 1 + 1) 2 (T.f.map (Value.int .i64))
theorem mid_new (W : World) (S : Nat) : MidRel W.heap.size (newT S) (List.replicate S 0) (((W.alloc (.cells (zeroRow (.float .f32 0) S) 46)).alloc (.cells (zeroRow (.bool false) S) 4)).alloc (.cells (zeroRow (.int .i64 0) S) 2)) := by
  refine ⟨⟨?_, ?_⟩, ?_, ?_⟩
  · rw [List.map_replicate]
    exact ((Row.new _ _ _ _).alloc _).alloc _
  · unfold newT
    simp only [List.map_replicate, fl0]
  · have h := Row.new (W.alloc (.cells (zeroRow (.float .f32 0) S) 46)) 4 (.bool false) S
    unfold newT
    rw [List.map_replicate]
    have h2 := h.alloc (.cells (zeroRow (.int .i64 0) S) 2)
    simpa using h2
  · have h := Row.new ((W.alloc (.cells (zeroRow (.float .f32 0) S) 46)).alloc (.cells (zeroRow (.bool false) S) 4)) 2 (.int .i64 0) S
    unfold newT
    rw [List.map_replicate]
    simpa using h

/-- the table within a state: behind so many bits -/
def bitT (M : Nat) (ms : List Int) (part : List Nat) (last : Bool) (T0 : Tb) (s : Nat) : Nat → Tb
  | 0 => rowT M ms part last T0 s
  | 1 => edgeT M ms part last T0 s false (rowT M ms part last T0 s)
  | _ + 2 => rowT M ms part last T0 (s + 1)
theorem bitT_step {M : Nat} {ms : List Int} {part : List Nat} {last : Bool} {T0 : Tb} {s j : Nat} (b : Bool) (hj : (j : Int) = bitI b) : bitT M ms part last T0 s (j + 1) = edgeT M ms part last T0 s b (bitT M ms part last T0 s j) := by
  cases b
  · obtain rfl : j = 0 := by have : bitI false = 0 := rfl; omega
    rfl
  · obtain rfl : j = 1 := by have : bitI true = 1 := rfl; omega
    rfl
theorem edge_not {M : Nat} {ms : List Int} {part : List Nat} {last : Bool} {T0 T : Tb} {s : Nat} {b : Bool} (h : T0.h.getD s false = false) : edgeT M ms part last T0 s b T = T := by unfold edgeT; rw [h]; rfl
theorem row_not {M : Nat} {ms : List Int} {part : List Nat} {last : Bool} {T0 : Tb} {s : Nat} (h : T0.h.getD s false = false) : rowT M ms part last T0 (s + 1) = rowT M ms part last T0 s := by
  show edgeT _ _ _ _ _ _ true (edgeT _ _ _ _ _ _ false _) = _
  rw [edge_not h, edge_not h]
theorem edge_last {M : Nat} {ms : List Int} {part : List Nat} {T0 T : Tb} {s : Nat} : edgeT M ms part true T0 s true T = T := by unfold edgeT; cases T0.h.getD s false <;> rfl
theorem edge_yes {M : Nat} {ms : List Int} {part : List Nat} {last : Bool} {T0 T : Tb} {s : Nat} {b : Bool} (h : T0.h.getD s false = true) (hb : (b && last) = false) : edgeT M ms part last T0 s b T = updT T (toS M s b) (edgeX ms part T0 s b) s := by unfold edgeT; rw [h, hb]; rfl
theorem bitT_sz {M : Nat} {ms : List Int} {part : List Nat} {last : Bool} {T0 : Tb} {s : Nat} (hs : s < 2 ^ M) : ∀ j, Sz (2 ^ M) (bitT M ms part last T0 s j)
  | 0 => sz_row s (by omega)
  | 1 => sz_edge (sz_row s (by omega)) hs _
  | _ + 2 => sz_row (s + 1) hs
theorem toS_eq (M s : Nat) (b : Bool) : (2 * (s : Int) + bitI b) % 2 ^ M = ((toS M s b : Nat) : Int) := by
  have h0 : (0 : Int) < 2 ^ M := Int.pow_pos (by decide)
  have h1 := Int.emod_nonneg (2 * (s : Int) + bitI b) (Int.ne_of_gt h0)
  unfold toS
  omega
theorem mid_put {B : Nat} {T : Tb} {ns : List Nat} {W : World} (h : MidRel B T ns W) (to : Nat) (v : Nat) (x : Option Nat) (hv : fl .f32 v = x) (s : Int) :
    MidRel B ⟨T.h.set to true, T.g.set to x, T.f.set to s⟩ (ns.set to v) (((W.setCell ⟨B + 1, to, none⟩ (.bool true)).setCell ⟨B, to, none⟩ (.float .f32 v)).setCell ⟨B + 1 + 1, to, none⟩ (.int .i64 s)) := by
  obtain ⟨⟨h1, h2⟩, h3, h4⟩ := h
  refine ⟨⟨?_, ?_⟩, ?_, ?_⟩
  · rw [List.map_set]
    exact ((h1.far (by omega) _ _).put _ _).far (by omega) _ _
  · rw [List.map_set, h2, hv]
  · rw [List.map_set]
    exact ((h3.put _ _).far (by omega) _ _).far (by omega) _ _
  · rw [List.map_set]
    exact ((h4.far (by omega) _ _).far (by omega) _ _).put _ _
theorem upd_yes {T : Tb} {to : Nat} {x : Option Nat} {s : Int} (h : betT T to x = true) : updT T to x s = ⟨T.h.set to true, T.g.set to x, T.f.set to s⟩ := if_pos h
theorem upd_no {T : Tb} {to : Nat} {x : Option Nat} {s : Int} (h : betT T to x = false) : updT T to x s = T := if_neg (by rw [h]; decide)
theorem MidRel.drewN {B : Nat} {T : Tb} {ns : List Nat} {W : World} (h : MidRel B T ns W) (k : Nat) : MidRel B T ns (W.drewN k) := h
theorem MidRel.below {B D : Nat} {T : Tb} {ns : List Nat} {W W' : World} (h : MidRel B T ns W) (hb : Below D W W') (hD : B + 1 + 1 < D) : MidRel B T ns W' :=
  ⟨⟨h.1.1.below hb (by omega), h.1.2⟩, h.2.1.below hb (by omega), h.2.2.below hb hD⟩

theorem WayRel.step {w : World} {S : Nat} {Fs : List (List Int)} {v12 v' : Value} {wA wB w1 : World} {bs ns : List Nat} {T' : Tb} (hbw : Below w.heap.size w wA)
    (hBF : Ow wA w.heap.size 22 v12 (bs.map fun g => Value.slice (some ⟨g, 0, none⟩) S S)) (hbl : bs.length = Fs.length)
    (hbr : ∀ i, i < bs.length → w.heap.size ≤ bs.getD i 0 ∧ Row wA (bs.getD i 0) 2 ((Fs.getD i []).map (Value.int .i64)))
    (hm : MidRel wA.heap.size T' ns wB) (hbA : Below wA.heap.size wA wB) (hz3 : wA.heap.size + 1 + 1 + 1 ≤ wB.heap.size) (o : Go.Obj) (hg : (wB.alloc o).grownBy w1 v12.ownBlock)
    (ho : Ow w1 w.heap.size 22 v' ((bs.map fun g => Value.slice (some ⟨g, 0, none⟩) S S) ++ [Value.slice (some ⟨wA.heap.size + 1 + 1, 0, none⟩) S S])) :
    WayRel w S T' (Fs ++ [T'.f]) (.slice (some ⟨wA.heap.size + 1, 0, none⟩) S S) (.slice (some ⟨wA.heap.size, 0, none⟩) S S) v' w1 := by
  have hz := hbw.size
  have hoB : Ow wB w.heap.size 22 v12 (bs.map fun g => Value.slice (some ⟨g, 0, none⟩) S S) := own_below hBF hbA (Nat.le_refl _)
  have hoC := hoB.alloc o
  obtain ⟨⟨m1, m2⟩, m3, m4⟩ := hm
  have hbB : Below w.heap.size w wB := hbw.trans (hbA.mono hz)
  refine ⟨wA.heap.size + 1, wA.heap.size, ns, bs ++ [wA.heap.size + 1 + 1], by omega, hz, rfl, rfl, (m3.alloc o).kept hoC (by decide) hg, m2, (m1.alloc o).kept hoC (by decide) hg, ?_, by simp [hbl], ?_, (hbB.alloc (by omega) o).grown hg (by simp; omega) fun k hk => (hoC.lt k hk).1⟩
  · rw [List.map_append]
    exact ho
  · intro i hi
    rw [List.length_append, List.length_singleton] at hi
    by_cases h : i < bs.length
    · obtain ⟨h1, h2⟩ := hbr i h
      have e1 : (bs ++ [wA.heap.size + 1 + 1]).getD i 0 = bs.getD i 0 := by simp only [List.getD, List.getElem?_append_left h]
      have e2 : (Fs ++ [T'.f]).getD i [] = Fs.getD i [] := by simp only [List.getD, List.getElem?_append_left (hbl ▸ h)]
      rw [e1, e2]
      exact ⟨h1, ((h2.below hbA h2.lt).alloc o).kept hoC (by decide) hg⟩
    · have e0 : i = bs.length := by omega
      subst e0
      have e1 : (bs ++ [wA.heap.size + 1 + 1]).getD bs.length 0 = wA.heap.size + 1 + 1 := by simp [List.getD]
      have e2 : (Fs ++ [T'.f]).getD bs.length [] = T'.f := by rw [hbl]; simp [List.getD]
      rw [e1, e2]
      exact ⟨by omega, (m4.alloc o).kept hoC (by decide) hg⟩
/-- the bits that are read back, from a place on -/
def restB (M : Nat) (ms : List Int) (soft : List Nat) (n m : Nat) : List Bool := (List.range n).map fun t => if m ≤ t then backS M ms soft n (n + M - 1 - t) % 2 == 1 else false
theorem restB_start (M : Nat) (ms : List Int) (soft : List Nat) (n m : Nat) (h : n ≤ m) : restB M ms soft n m = List.replicate n false := by
  unfold restB
  refine List.ext_getElem (by simp) fun i h1 h2 => ?_
  simp only [List.length_map, List.length_range] at h1
  rw [List.getElem_map, List.getElem_range, if_neg (by omega), List.getElem_replicate]
theorem restB_end (M : Nat) (ms : List Int) (soft : List Nat) (n : Nat) : restB M ms soft n 0 = wayBits M ms soft n := by
  unfold restB wayBits
  simp
theorem restB_len (M : Nat) (ms : List Int) (soft : List Nat) (n m : Nat) : (restB M ms soft n m).length = n := by simp [restB]
theorem restB_set {M : Nat} {ms : List Int} {soft : List Nat} {n t : Nat} : (restB M ms soft n (t + 1)).set t (backS M ms soft n (n + M - (t + 1)) % 2 == 1) = restB M ms soft n t := by
  refine List.ext_getElem (by simp [restB]) fun i h1 h2 => ?_
  simp only [restB_len] at h2
  rw [List.getElem_set]
  simp only [restB, List.getElem_map, List.getElem_range]
  by_cases h : t = i
  · subst h
    rw [if_pos rfl, if_pos (Nat.le_refl _), show n + M - (t + 1) = n + M - 1 - t by omega]
  · rw [if_neg h]
    by_cases h3 : t ≤ i
    · rw [if_pos h3, if_pos (by omega)]
    · rw [if_neg h3, if_neg (by omega)]
theorem restB_far {M : Nat} {ms : List Int} {soft : List Nat} {n t : Nat} (h : n ≤ t) : restB M ms soft n (t + 1) = restB M ms soft n t := by rw [restB_start _ _ _ _ _ (by omega), restB_start _ _ _ _ _ h]
theorem backS_step {M : Nat} {ms : List Int} {soft : List Nat} {n t : Nat} (h : t < n + M) : backS M ms soft n (n + M - t) = (tabT M ms soft n (t + 1)).f.getD (backS M ms soft n (n + M - (t + 1))).toNat 0 := by
  obtain ⟨k, hk⟩ : ∃ k, n + M - (t + 1) = k := ⟨_, rfl⟩
  rw [hk, show n + M - t = k + 1 by omega]
  show (tabT M ms soft n (n + M - k)).f.getD _ 0 = _
  rw [show n + M - k = t + 1 by omega]


set_option maxRecDepth 100000 in
set_option maxHeartbeats 4000000 in
theorem spec_l07Way_c (w : World) (b M : Nat) (hM1 : 1 ≤ M) (hM4 : M ≤ 4) (A : Option Addr) (k cap : Nat) (ms : List Int) (hl : ms.length = k) (hk1 : 1 ≤ k) (hk4 : k ≤ 4) (hr : ∀ x ∈ ms, 0 ≤ x ∧ x ≤ 31) (hO : Obj w b 29 #[.int .i64 (M : Int), .slice A k cap]) (hx : Sl w w.heap.size A (ms.map (Value.int .i64)))
    (A2 : Option Addr) (n2 cap2 : Nat) (xs : List Nat) (hl2 : xs.length = n2) (hy : Sl w w.heap.size A2 (xs.map (Value.float .f32))) (n : Nat) (hn : n ≤ 40) (hnn : (n + M) * k = n2) (hcap2 : n2 ≤ cap2) :
    Calls Try.prog 67 #[.pointer (some ⟨b, 0, none⟩), .slice A2 n2 cap2, .int .i64 (n : Int)] w fun e w' => ∃ v g, e = .returned (.tuple #[v, .float .f32 g]) ∧ fl .f32 g = wayGain M ms xs n ∧ Ow w' w.heap.size 4 v ((wayBits M ms xs n).map Value.bool) ∧ Below w.heap.size w w' := by
  obtain ⟨S, hS⟩ : ∃ S : Nat, 2 ^ M = S := ⟨_, rfl⟩
  have hSI : (2 : Int) ^ M = (S : Int) := by rw [← hS]; push_cast; rfl
  have hS16 : S ≤ 16 := by rw [← hS]; exact Nat.pow_le_pow_right (n := 2) (by decide) hM4
  have hS1 : 1 ≤ S := by rw [← hS]; exact Nat.pow_pos (by decide)
  have hsh : wrap64 (2 ^ M) = (S : Int) := by rw [hSI]; exact IntWalk.wrap64_in _ (by omega)
  have HSS := Lib.hid hS
  have HSH := Lib.hid hsh
  clear hS hSI hsh
  have hSm : S ≤ 1099511627776 := Nat.le_trans hS16 (by decide)
  have hmb := fun W : World => run_mk (P := Try.prog) Try.underlying41 infoBool rfl (by decide) S hSm .i64 .i64 W
  have hmi := fun W : World => run_mk (P := Try.prog) Try.underlying22 infoInt64 rfl (by decide) S hSm .i64 .i64 W
  have hmf := fun W : World => run_mk (P := Try.prog) Try.underlying25 infoFloat32 rfl (by decide) S hSm .i64 .i64 W
  have hbz := hO.lt
  obtain ⟨w2, e2⟩ : ∃ q : World, q = (w.alloc (.cells (zeroRow (.bool false) S) 4)).alloc (.cells (zeroRow (.float .f32 0) S) 46) := ⟨_, rfl⟩
  have z2 : w2.heap.size = w.heap.size + 1 + 1 := by rw [e2]; simp
  have b2 : Below w.heap.size w w2 := by rw [e2]; exact ((Below.refl _ _).alloc (Nat.le_refl _) _).alloc (by simp) _
  have h1 : Row w2 w.heap.size 4 (List.replicate S (.bool false)) := by rw [e2]; exact (Row.new _ _ _ _).alloc _
  have h2 : Row w2 (w.heap.size + 1) 46 (List.replicate S (.float .f32 0)) := by
    have := Row.new (w.alloc (.cells (zeroRow (.bool false) S) 4)) 46 (.float .f32 0) S
    rw [e2]; simpa using this
  have f1 := h1.frz 0
  have c1 := h1.get (k := 0) (by simp; omega)
  obtain ⟨⟨C0, C1⟩, -⟩ := hO.two
  have hn2p : 0 < n2 := by rw [← hnn]; exact Nat.mul_pos (by omega) (by omega)
  have HC0 := Lib.hid C0
  have HC1 := Lib.hid C1
  have HO := Lib.hid hO
  have HX := Lib.hid hx
  have HY := Lib.hid hy
  have HNN := Lib.hid hnn
  have H1 := Lib.hid h1
  have H2 := Lib.hid h2
  clear hO hx hy hnn h1 h2
  go_enter Try.func67, Try.ntmps67
  go_wp2_with (first | rw [HSH.out] | (rw [← e2]; clear e2))
  go_loopw [10, 11, 12, 13] (fun v10 v11 v12 i wr => ∃ t : Nat, t ≤ n + M ∧ i = .int .i64 t ∧ WayRel w S (tabT M ms xs n t) ((List.range t).map fun j => (tabT M ms xs n (j + 1)).f) v10 v11 v12 wr) (fun _ _ _ i _ => n + M - (intOf i).toNat)
  case atStart =>
    have zs : (w2.setCell ⟨w.heap.size, 0, none⟩ (.bool true)).heap.size = w.heap.size + 1 + 1 := by rw [← z2]; simp
    refine ⟨0, Nat.zero_le _, rfl, w.heap.size, w.heap.size + 1, List.replicate S 0, [], Nat.le_refl _, Nat.le_succ _, rfl, rfl, ?_, ?_, ?_, ?_, rfl, fun i hi => absurd hi (Nat.not_lt_zero _), (Below.setCell b2 (by simp) _).alloc (by rw [zs]; omega) _⟩
    · show Row _ _ _ ((startT (2 ^ M)).h.map Value.bool)
      rw [HSS.out]
      unfold startT
      simp only [List.map_set, List.map_replicate]
      exact (H1.out.put 0 _).alloc _
    · show _ = (startT (2 ^ M)).g
      rw [HSS.out]
      unfold startT
      simp only [List.map_replicate, fl0]
    · simp only [List.map_replicate]
      exact (H2.out.far (by omega) 0 _).alloc _
    · have := own_empty (w2.setCell ⟨w.heap.size, 0, none⟩ (.bool true)) w.heap.size 22 (by rw [zs]; omega)
      rw [zs] at this
      exact this
  case round =>
    clear c1 f1
    obtain ⟨t, ht, rfl, hrl⟩ := hrel
    obtain ⟨wA, rfl⟩ : ∃ wA : World, wA = wr := ⟨_, rfl⟩
    obtain ⟨b10, b11, gs, bs, hb10, hb11, rfl, rfl, hr10, hgs, hr11, hbf, hbl, hbr, hbw⟩ := hrl
    have hzr := hbw.size
    have hCb := HO.out.below hbw hbz
    obtain ⟨⟨C0, C1⟩, -⟩ := hCb.two
    by_cases hlt : t < n + M
    · have hz10 := hr10.lt
      have hz11 := hr11.lt
      have htab : tabT M ms xs n (t + 1) = rowT M ms (partL k xs t) (decide (n ≤ t)) (tabT M ms xs n t) S := by rw [← HSS.out, ← hl]; rfl
      have hT0 : Sz S (tabT M ms xs n t) := by rw [← HSS.out]; exact sz_tab t
      obtain ⟨T0, eT0⟩ : ∃ T, tabT M ms xs n t = T := ⟨_, rfl⟩
      obtain ⟨pt, ept⟩ : ∃ pt, partL k xs t = pt := ⟨_, rfl⟩
      obtain ⟨la, ela⟩ : ∃ la, decide (n ≤ t) = la := ⟨_, rfl⟩
      rw [eT0] at hgs hr10 hT0 htab
      rw [ept, ela] at htab
      have HR10 := Lib.hid hr10
      have HR11 := Lib.hid hr11
      have HGS := Lib.hid hgs
      have HBF := Lib.hid hbf
      have HBR := Lib.hid hbr
      have HT0 := Lib.hid eT0
      have HPT := Lib.hid ept
      have HTAB := Lib.hid htab
      have HTS := Lib.hid hT0
      clear hr10 hr11 hgs hbf hbr hCb eT0 ept htab hT0
      have HLA := Lib.hid ela
      clear ela
      have hltd : decide ((t : Int) < (n : Int) + (M : Int)) = true := decide_eq_true (by omega)
      go_wp2
      go_loopw [17] (fun i w1 => ∃ (s : Nat) (ns : List Nat), s ≤ S ∧ i = .int .i64 s ∧ MidRel wA.heap.size (rowT M ms pt la T0 s) ns w1 ∧ Below wA.heap.size wA w1 ∧ wA.heap.size + 1 + 1 + 1 ≤ w1.heap.size) (fun i _ => S - (intOf i).toNat)
      case atStart =>
        refine ⟨0, List.replicate S 0, Nat.zero_le _, rfl, ?_, (((Below.refl _ _).alloc (Nat.le_refl _) _).alloc (by simp) _).alloc (by simp; omega) _, by simp⟩
        show MidRel _ (newT (2 ^ M)) _ _
        rw [HSS.out]
        exact mid_new wA S
      case round =>
        obtain ⟨s, ns, hs, rfl, hmid, hbA, hz3⟩ := hrel
        obtain ⟨wB, rfl⟩ : ∃ wB : World, wB = wr := ⟨_, rfl⟩
        by_cases hlt2 : s < S
        · have hr := HR10.out.below hbA hz10
          have hsl : s < T0.h.length := by rw [HTS.out.h]; exact hlt2
          have c10 := hr.get (k := s) (by simpa using hsl)
          rw [List.getElem_map] at c10
          have hgd : T0.h.getD s false = T0.h[s] := by simp [List.getD, hsl]
          obtain ⟨hb, ehb⟩ : ∃ q, T0.h[s] = q := ⟨_, rfl⟩
          rw [ehb] at c10 hgd
          have HM := Lib.hid hmid
          have HG := Lib.hid hgd
          have HG2 := Lib.hid ehb
          clear hr hmid hgd ehb
          cases hb
          · go_wp2
            go_loopw [18] (fun j w1 => j = .int .i64 0 ∧ w1 = wB) (fun _ _ => 0)
            case atStart => exact ⟨rfl, rfl⟩
            case round =>
              obtain ⟨rfl, rfl⟩ := hrel
              go_wp2
              go_roundw
              case rel => exact ⟨s + 1, ns, hlt2, by go_num, by rw [row_not HG.out]; exact HM.out, hbA, hz3⟩
              case measure => simp [intOf]; omega
          · obtain ⟨bx, ox, eA2, hbx, hcx⟩ := HY.out.get 0 (by omega)
            have hpt : pt = (xs.drop (t * k)).take k := by rw [← HPT.out]; rfl
            have hk44 : t * k ≤ 43 * 4 := Nat.mul_le_mul (by omega) hk4
            have hlo2 : (t + 1) * k = t * k + k := Nat.succ_mul t k
            have hlo3 : (t + 1) * k ≤ (n + M) * k := Nat.mul_le_mul_right k (by omega)
            have hlo4 := HNN.out
            obtain ⟨lo, elo⟩ : ∃ lo, t * k = lo := ⟨_, rfl⟩
            rw [elo] at hlo2 hk44 hpt
            rw [hlo2, hlo4] at hlo3
            obtain ⟨hi, ehi⟩ : ∃ hi, lo + k = hi := ⟨_, rfl⟩
            rw [ehi] at hlo2 hlo3
            have i0 : (0 : Int) ≤ (lo : Int) := by omega
            have i1 : (lo : Int) ≤ (hi : Int) := by omega
            have i2 : (hi : Int) ≤ (cap2 : Int) := by omega
            have i3 : lo ≤ hi := by omega
            have i4 : hi ≤ cap2 := by omega
            have HHI := Lib.hid (show hi - lo = k by omega)
            have m1 : IntKind.i64.wrap ((t : Int) * (k : Int)) = (lo : Int) := by rw [← elo, ← Int.natCast_mul]; exact IntWalk.i64_in _ (by omega)
            have m2 : IntKind.i64.wrap (((t : Int) + 1) * (k : Int)) = (hi : Int) := by rw [← hlo2]; exact IntWalk.i64_in (((t + 1) * k : Nat) : Int) (by omega)
            have m3 : IntKind.i64.wrap ((t : Int) + 1) = (t : Int) + 1 := IntWalk.i64_in _ (by omega)
            have M1 := Lib.hid m1
            have M2 := Lib.hid m2
            have M3 := Lib.hid m3
            have HPT2 := Lib.hid hpt
            clear hcx hlo2 hlo4 elo m1 m2 m3 hpt ehi
            subst eA2
            go_wp2
            go_loopw [18] (fun jv w1 => ∃ (j : Nat) (ms2 : List Nat), j ≤ 2 ∧ jv = .int .i64 j ∧ MidRel wA.heap.size (bitT M ms pt la T0 s j) ms2 w1 ∧ Below wA.heap.size wA w1 ∧ wA.heap.size + 1 + 1 + 1 ≤ w1.heap.size) (fun j _ => 2 - (intOf j).toNat)
            case atStart => exact ⟨0, ns, Nat.zero_le _, rfl, HM.out, hbA, hz3⟩
            case round =>
              clear c10
              obtain ⟨j, ns2, hj, rfl, hmid2, hbC, hz4⟩ := hrel
              obtain ⟨wC, rfl⟩ : ∃ wC : World, wC = wr := ⟨_, rfl⟩
              have hr2 := HR10.out.below hbC hz10
              have c10 := hr2.get (k := s) (by simpa using hsl)
              rw [List.getElem_map, show T0.h[s] = true from HG2.out] at c10
              have HM2 := Lib.hid hmid2
              have HR2 := Lib.hid hr2
              clear hmid2 hr2
              by_cases hj2 : j < 2
              · obtain ⟨q, hjq⟩ : ∃ q : Bool, (j : Int) = bitI q := by
                  rcases (show j = 0 ∨ j = 1 by omega) with rfl | rfl
                  · exact ⟨false, rfl⟩
                  · exact ⟨true, rfl⟩
                have hje : ((j : Int) == 1) = q := by rw [hjq]; cases q <;> rfl
                have HJ := Lib.hid hjq
                clear hjq
                by_cases hsk : (q && la) = true
                · obtain ⟨rfl, rfl⟩ : q = true ∧ la = true := by simpa using hsk
                  have hnt : n ≤ t := by simpa using HLA.out
                  clear hsk
                  go_wp2
                  go_roundw
                  case rel => exact ⟨j + 1, ns2, by omega, by go_num, by rw [bitT_step true HJ.out, edge_last]; exact HM2.out, hbC, hz4⟩
                  case measure => simp [intOf]; omega
                · have hql : (q && la) = false := by simpa using hsk
                  obtain ⟨to, eto⟩ : ∃ to, toS M s q = to := ⟨_, rfl⟩
                  have hto : to < S := by rw [← eto, ← HSS.out]; exact toS_lt q
                  have htv : (2 * (s : Int) + bitI q) % 2 ^ M = (to : Int) := by rw [← eto]; exact toS_eq M s q
                  have hedge : edgeT M ms pt la T0 s q (bitT M ms pt la T0 s j) = updT (bitT M ms pt la T0 s j) to (edgeX ms pt T0 s q) s := by rw [← eto]; exact edge_yes HG.out hql
                  have hSzb : Sz S (bitT M ms pt la T0 s j) := by rw [← HSS.out]; exact bitT_sz (by rw [HSS.out]; exact hlt2) j
                  have hst := bitT_step (M := M) (ms := ms) (part := pt) (last := la) (T0 := T0) (s := s) q HJ.out
                  rw [hedge] at hst
                  have hs15 : s ≤ 15 := by omega
                  have hgl : gs.length = S := by have := congrArg List.length HGS.out; rw [List.length_map, HTS.out.g] at this; exact this
                  have hsg : s < gs.length := by rw [hgl]; exact hlt2
                  obtain ⟨g0, eg0⟩ : ∃ g, gs[s] = g := ⟨_, rfl⟩
                  have hg0 : T0.g.getD s none = fl .f32 g0 := by rw [← HGS.out, ← eg0]; simp [List.getD, hsg]
                  have hbw2 : Below w.heap.size w wC := hbw.trans (hbC.mono hzr)
                  have hqn : q = true → ¬ n ≤ t := by
                    rintro rfl h
                    rw [Bool.true_and, ← HLA.out] at hql
                    simp [h] at hql
                  obtain ⟨T1, eT1⟩ : ∃ T, bitT M ms pt la T0 s j = T := ⟨_, rfl⟩
                  rw [eT1] at hst hSzb
                  have HT1 := Lib.hid eT1
                  have HQN := Lib.hid hqn
                  have HTV := Lib.hid htv
                  have HST := Lib.hid hst
                  have HG0 := Lib.hid hg0
                  have HSB := Lib.hid hSzb
                  have d0 := (hbw2.cell (p := ⟨b, 0, none⟩) hbz).trans HC0.out
                  have d1 := (hbw2.cell (p := ⟨b, 1, none⟩) hbz).trans HC1.out
                  have d2 := (HR11.out.below hbC hz11).get (k := s) (by simpa using hsg)
                  rw [List.getElem_map, eg0] at d2
                  clear eT1 eto htv hedge hst hsk hql hqn hg0 eg0 hSzb C0 C1
                  cases q
                  · go_wp2_with fail
                    refine (spec_l07Next_c wC b M s false (by omega) (by omega) hM1 hM4 d0).mono ?_
                    rintro e w' ⟨rfl, q1, rfl⟩
                    rw [HTV.out]
                    obtain ⟨wD, eD⟩ : ∃ W : World, W = wC.drewN q1 := ⟨_, rfl⟩
                    rw [← eD]
                    have hbD : Below w.heap.size w wD := by rw [eD]; exact below_drewN hbw2 q1
                    have hbD2 : Below wA.heap.size wA wD := by rw [eD]; exact below_drewN hbC q1
                    have hmD : MidRel wA.heap.size T1 ns2 wD := by rw [eD, ← HT1.out]; exact HM2.out
                    have hzD : wA.heap.size + 1 + 1 + 1 ≤ wD.heap.size := by rw [eD]; exact hz4
                    have f0 : wD.cell? ⟨b, 0, none⟩ = some (.int .i64 (M : Int)) := by rw [eD]; exact d0
                    have f1 : wD.cell? ⟨b, 1, none⟩ = some (.slice A k cap) := by rw [eD]; exact d1
                    have f2 : wD.cell? ⟨b11, s, none⟩ = some (.float .f32 g0) := by rw [eD]; exact d2
                    have HMD := Lib.hid hmD
                    clear eD d0 d1 d2 hmD hbw2
                    have m1 := M1.out
                    have m2 := M2.out
                    have m3 := M3.out
                    have hyD : Sl wD w.heap.size (some ⟨bx, ox + lo, none⟩) (pt.map (Value.float .f32)) := by
                      rw [HPT2.out, List.map_take, List.map_drop]
                      exact sl_part (HY.out.below hbD) lo k
                    have hptl : pt.length = k := by rw [HPT2.out]; have := HHI.out; simp; omega
                    have hi_len := HHI.out
                    have HYD := Lib.hid hyD
                    clear hyD
                    go_wp2_with fail
                    go_region_held3 (fun w' => w'.cell? ⟨b11, s, none⟩ = some (.float .f32 g0))
                      (first | exact p2 | exact f2)
                      (first
                        | (go_at_call 75; refine (spec_l07Gain_c w3 g0 w3.heap.size w.heap.size S3 _ q3 (sentL ms (2 * (s : Int) + bitI false)) rfl (by rw [sentL_len]; omega) (sl_of_own hp3) (some ⟨bx, ox + lo, none⟩) k _ pt hptl (by rw [sentL_len]; omega) (by omega) hy3).mono ?_; rintro e w4 ⟨x, rfl, hx4, q4, rfl⟩)
                        | (go_at_call 76; refine (spec_l07Sends_c wD.drew b w.heap.size A k cap ms hl hk4 hr (show b < wD.heap.size by omega) hbD.size (HX.out.below (below_drewN hbD 1)) (s : Int) false (by omega) (by omega) f1).mono ?_; rintro e w3 ⟨v3, rfl, ho3, hb3⟩; have hb3 := below_undrew hb3; obtain ⟨S3, q3, rfl, hp3⟩ := ho3.opn; have p2 := (hb3.cell (p := ⟨b11, s, none⟩) (by simp only []; omega)).trans f2; have hy3 := HYD.out.below (hb3.mono hbD.size)))
                    obtain ⟨wE, eE⟩ : ∃ W : World, W = w3.drewN q4 := ⟨_, rfl⟩
                    rw [← eE]
                    have b3E : Below wD.heap.size wD wE := by rw [eE]; exact below_drewN hb3 q4
                    have hmE := HMD.out.below b3E (by omega)
                    have hbE2 : Below wA.heap.size wA wE := hbD2.trans (b3E.mono (by omega))
                    have hzE : wA.heap.size + 1 + 1 + 1 ≤ wE.heap.size := Nat.le_trans hzD b3E.size
                    have hxe : fl .f32 x = edgeX ms pt T0 s false := by
                      rw [hx4, sentL_len]
                      unfold edgeX
                      rw [HG0.out]
                    have HXE := Lib.hid hxe
                    have HME := Lib.hid hmE
                    obtain ⟨⟨r1, r2⟩, r3, r4⟩ := hmE
                    have hto1 : to < T1.h.length := by rw [HSB.out.h]; exact hto
                    have hto2 : to < ns2.length := by have := congrArg List.length r2; rw [List.length_map, HSB.out.g] at this; omega
                    have hto3 : to < T1.f.length := by rw [HSB.out.f]; exact hto
                    have k1 := r3.get (k := to) (by simpa using hto1)
                    have k2 := r1.get (k := to) (by simpa using hto2)
                    have k3 := r4.get (k := to) (by simpa using hto3)
                    have z1 := r3.frz to
                    have z2 := r1.frz to
                    have z3 := r4.frz to
                    rw [List.getElem_map] at k1 k2 k3
                    have hgh : T1.h.getD to false = T1.h[to] := by simp [List.getD, hto1]
                    have hgg : T1.g.getD to none = fl .f32 ns2[to] := by rw [← r2]; simp [List.getD, hto2]
                    obtain ⟨hh, ehh⟩ : ∃ q, T1.h[to] = q := ⟨_, rfl⟩
                    obtain ⟨y, ey⟩ : ∃ q, ns2[to] = q := ⟨_, rfl⟩
                    obtain ⟨fr, efr⟩ : ∃ q, T1.f[to] = q := ⟨_, rfl⟩
                    rw [ehh] at k1 hgh
                    rw [ey] at k2 hgg
                    rw [efr] at k3
                    have hbet : betT T1 to (edgeX ms pt T0 s false) = (!hh || (FloatKind.f32.format.order x y == some Ordering.gt)) := by
                      unfold betT
                      rw [hgh, hgg, gt_fl, hxe]
                    have HB := Lib.hid hbet
                    clear eE r1 r2 r3 r4 hgh hgg ehh ey efr hbet hxe hx4 b3E hb3 hp3 ho3 hy3 p2 f2 f0 f1 m1 m2 m3
                    cases hh
                    · go_wp2
                      go_roundw
                      case rel =>
                        refine ⟨j + 1, ns2.set to x, by omega, by go_num, ?_, ((hbE2.setCell (by simp) _).setCell (by simp) _).setCell (by simp; omega) _, by simp; omega⟩
                        rw [HST.out, upd_yes (by rw [HB.out]; rfl)]
                        exact mid_put HME.out to x _ HXE.out s
                      case measure => simp [intOf]; omega
                    · by_cases hord : (FloatKind.f32.format.order x y == some Ordering.gt) = true
                      · go_wp2
                        go_roundw
                        case rel =>
                          refine ⟨j + 1, ns2.set to x, by omega, by go_num, ?_, ((hbE2.setCell (by simp) _).setCell (by simp) _).setCell (by simp; omega) _, by simp; omega⟩
                          rw [HST.out, upd_yes (by rw [HB.out, hord]; rfl)]
                          exact mid_put HME.out to x _ HXE.out s
                        case measure => simp [intOf]; omega
                      · have hord : (FloatKind.f32.format.order x y == some Ordering.gt) = false := by simpa using hord
                        go_wp2
                        go_roundw
                        case rel =>
                          refine ⟨j + 1, ns2, by omega, by go_num, ?_, hbE2, hzE⟩
                          rw [HST.out, upd_no (by rw [HB.out, hord]; rfl)]
                          exact HME.out
                        case measure => simp [intOf]; omega
                  · have hnt := HQN.out rfl
                    have hntd : decide ((n : Int) ≤ (t : Int)) = false := decide_eq_false (by omega)
                    go_wp2_with fail
                    refine (spec_l07Next_c wC b M s true (by omega) (by omega) hM1 hM4 d0).mono ?_
                    rintro e w' ⟨rfl, q1, rfl⟩
                    rw [HTV.out]
                    obtain ⟨wD, eD⟩ : ∃ W : World, W = wC.drewN q1 := ⟨_, rfl⟩
                    rw [← eD]
                    have hbD : Below w.heap.size w wD := by rw [eD]; exact below_drewN hbw2 q1
                    have hbD2 : Below wA.heap.size wA wD := by rw [eD]; exact below_drewN hbC q1
                    have hmD : MidRel wA.heap.size T1 ns2 wD := by rw [eD, ← HT1.out]; exact HM2.out
                    have hzD : wA.heap.size + 1 + 1 + 1 ≤ wD.heap.size := by rw [eD]; exact hz4
                    have f0 : wD.cell? ⟨b, 0, none⟩ = some (.int .i64 (M : Int)) := by rw [eD]; exact d0
                    have f1 : wD.cell? ⟨b, 1, none⟩ = some (.slice A k cap) := by rw [eD]; exact d1
                    have f2 : wD.cell? ⟨b11, s, none⟩ = some (.float .f32 g0) := by rw [eD]; exact d2
                    have HMD := Lib.hid hmD
                    clear eD d0 d1 d2 hmD hbw2
                    have m1 := M1.out
                    have m2 := M2.out
                    have m3 := M3.out
                    have hyD : Sl wD w.heap.size (some ⟨bx, ox + lo, none⟩) (pt.map (Value.float .f32)) := by
                      rw [HPT2.out, List.map_take, List.map_drop]
                      exact sl_part (HY.out.below hbD) lo k
                    have hptl : pt.length = k := by rw [HPT2.out]; have := HHI.out; simp; omega
                    have hi_len := HHI.out
                    have HYD := Lib.hid hyD
                    clear hyD
                    go_wp2_with fail
                    go_region_held3 (fun w' => w'.cell? ⟨b11, s, none⟩ = some (.float .f32 g0))
                      (first | exact p2 | exact f2)
                      (first
                        | (go_at_call 75; refine (spec_l07Gain_c w3 g0 w3.heap.size w.heap.size S3 _ q3 (sentL ms (2 * (s : Int) + bitI true)) rfl (by rw [sentL_len]; omega) (sl_of_own hp3) (some ⟨bx, ox + lo, none⟩) k _ pt hptl (by rw [sentL_len]; omega) (by omega) hy3).mono ?_; rintro e w4 ⟨x, rfl, hx4, q4, rfl⟩)
                        | (go_at_call 76; refine (spec_l07Sends_c wD.drew b w.heap.size A k cap ms hl hk4 hr (show b < wD.heap.size by omega) hbD.size (HX.out.below (below_drewN hbD 1)) (s : Int) true (by omega) (by omega) f1).mono ?_; rintro e w3 ⟨v3, rfl, ho3, hb3⟩; have hb3 := below_undrew hb3; obtain ⟨S3, q3, rfl, hp3⟩ := ho3.opn; have p2 := (hb3.cell (p := ⟨b11, s, none⟩) (by simp only []; omega)).trans f2; have hy3 := HYD.out.below (hb3.mono hbD.size)))
                    obtain ⟨wE, eE⟩ : ∃ W : World, W = w3.drewN q4 := ⟨_, rfl⟩
                    rw [← eE]
                    have b3E : Below wD.heap.size wD wE := by rw [eE]; exact below_drewN hb3 q4
                    have hmE := HMD.out.below b3E (by omega)
                    have hbE2 : Below wA.heap.size wA wE := hbD2.trans (b3E.mono (by omega))
                    have hzE : wA.heap.size + 1 + 1 + 1 ≤ wE.heap.size := Nat.le_trans hzD b3E.size
                    have hxe : fl .f32 x = edgeX ms pt T0 s true := by
                      rw [hx4, sentL_len]
                      unfold edgeX
                      rw [HG0.out]
                    have HXE := Lib.hid hxe
                    have HME := Lib.hid hmE
                    obtain ⟨⟨r1, r2⟩, r3, r4⟩ := hmE
                    have hto1 : to < T1.h.length := by rw [HSB.out.h]; exact hto
                    have hto2 : to < ns2.length := by have := congrArg List.length r2; rw [List.length_map, HSB.out.g] at this; omega
                    have hto3 : to < T1.f.length := by rw [HSB.out.f]; exact hto
                    have k1 := r3.get (k := to) (by simpa using hto1)
                    have k2 := r1.get (k := to) (by simpa using hto2)
                    have k3 := r4.get (k := to) (by simpa using hto3)
                    have z1 := r3.frz to
                    have z2 := r1.frz to
                    have z3 := r4.frz to
                    rw [List.getElem_map] at k1 k2 k3
                    have hgh : T1.h.getD to false = T1.h[to] := by simp [List.getD, hto1]
                    have hgg : T1.g.getD to none = fl .f32 ns2[to] := by rw [← r2]; simp [List.getD, hto2]
                    obtain ⟨hh, ehh⟩ : ∃ q, T1.h[to] = q := ⟨_, rfl⟩
                    obtain ⟨y, ey⟩ : ∃ q, ns2[to] = q := ⟨_, rfl⟩
                    obtain ⟨fr, efr⟩ : ∃ q, T1.f[to] = q := ⟨_, rfl⟩
                    rw [ehh] at k1 hgh
                    rw [ey] at k2 hgg
                    rw [efr] at k3
                    have hbet : betT T1 to (edgeX ms pt T0 s true) = (!hh || (FloatKind.f32.format.order x y == some Ordering.gt)) := by
                      unfold betT
                      rw [hgh, hgg, gt_fl, hxe]
                    have HB := Lib.hid hbet
                    clear eE r1 r2 r3 r4 hgh hgg ehh ey efr hbet hxe hx4 b3E hb3 hp3 ho3 hy3 p2 f2 f0 f1 m1 m2 m3
                    cases hh
                    · go_wp2
                      go_roundw
                      case rel =>
                        refine ⟨j + 1, ns2.set to x, by omega, by go_num, ?_, ((hbE2.setCell (by simp) _).setCell (by simp) _).setCell (by simp; omega) _, by simp; omega⟩
                        rw [HST.out, upd_yes (by rw [HB.out]; rfl)]
                        exact mid_put HME.out to x _ HXE.out s
                      case measure => simp [intOf]; omega
                    · by_cases hord : (FloatKind.f32.format.order x y == some Ordering.gt) = true
                      · go_wp2
                        go_roundw
                        case rel =>
                          refine ⟨j + 1, ns2.set to x, by omega, by go_num, ?_, ((hbE2.setCell (by simp) _).setCell (by simp) _).setCell (by simp; omega) _, by simp; omega⟩
                          rw [HST.out, upd_yes (by rw [HB.out, hord]; rfl)]
                          exact mid_put HME.out to x _ HXE.out s
                        case measure => simp [intOf]; omega
                      · have hord : (FloatKind.f32.format.order x y == some Ordering.gt) = false := by simpa using hord
                        go_wp2
                        go_roundw
                        case rel =>
                          refine ⟨j + 1, ns2, by omega, by go_num, ?_, hbE2, hzE⟩
                          rw [HST.out, upd_no (by rw [HB.out, hord]; rfl)]
                          exact HME.out
                        case measure => simp [intOf]; omega
              · have : j = 2 := by omega
                subst this
                go_wp2
                go_roundw
                case rel => exact ⟨s + 1, ns2, hlt2, by go_num, HM2.out, hbC, hz4⟩
                case measure => simp [intOf]; omega
        · obtain rfl : s = S := by omega
          have hoB : Ow wB w.heap.size 22 u12 (bs.map fun g => Value.slice (some ⟨g, 0, none⟩) s s) := own_below HBF.out hbA (Nat.le_refl _)
          have hlen : (bs.map fun g => Value.slice (some ⟨g, 0, none⟩) s s).length + 1 ≤ 1099511627776 := by
            rw [List.length_map, hbl]; simp; omega
          have hzb := hbA.size
          have HMI := Lib.hid hmid
          clear hmid
          go_wp2_with (at_builtin; refine appGW Try.underlying129 infoRow rfl (by decide) rfl _ _ rfl _ _ _ rfl (hoB.alloc _) _ _ _ rfl (cell_new1 _ _ _) rfl hlen (by simp; omega) ?_; intro v' w1 ho1 hb1)
          go_roundw
          case rel =>
            refine ⟨t + 1, by omega, by go_num, ?_⟩
            rw [HTAB.out, List.range_succ, List.map_append]
            have e1 : [t].map (fun j => (tabT M ms xs n (j + 1)).f) = [(rowT M ms pt la T0 s).f] := by simp only [List.map_cons, List.map_nil, HTAB.out]
            rw [e1]
            exact WayRel.step hbw HBF.out hbl HBR.out HMI.out hbA hz3 _ hb1 ho1
          case measure => simp [intOf]; omega
    · obtain rfl : t = n + M := by omega
      obtain ⟨A12, c12, rfl, hoA⟩ := hbf.opn
      have hbl2 : bs.length = n + M := by rw [hbl]; simp
      have hmn := fun W : World => run_mk (P := Try.prog) Try.underlying41 infoBool rfl (by decide) n (by omega) .i64 .i64 W
      obtain ⟨wF, eF⟩ : ∃ q : World, q = wA.alloc (.cells (zeroRow (.bool false) n) 4) := ⟨_, rfl⟩
      have bF : Below wA.heap.size wA wF := by rw [eF]; exact (Below.refl _ _).alloc (Nat.le_refl _) _
      have hF : Row wF wA.heap.size 4 (List.replicate n (.bool false)) := by rw [eF]; exact Row.new _ _ _ _
      have hz11 := hr11.lt
      have HF := Lib.hid hF
      have HR11 := Lib.hid hr11
      have HGS := Lib.hid hgs
      have HOA := Lib.hid hoA
      have HBR := Lib.hid hbr
      have HBL := Lib.hid hbl2
      have HBL0 := Lib.hid hbl
      have hbA : b < wA.heap.size := Nat.lt_of_lt_of_le hbz hzr
      have D0 := (bF.cell (p := ⟨b, 0, none⟩) hbA).trans C0
      clear hF hr10 hr11 hgs hbf hoA hbr hbl hbl2 hCb
      go_wp2_with (rw [← eF]; clear eF)
      go_loopw [23, 24] (fun v23 v24 w3 => ∃ (m : Nat) (i : Int), m ≤ n + M ∧ v24 = .int .i64 i ∧ i + 1 = (m : Int) ∧ v23 = .int .i64 (backS M ms xs n (n + M - m)) ∧ Row w3 wA.heap.size 4 ((restB M ms xs n m).map Value.bool) ∧ Below wA.heap.size wA w3) (fun _ i _ => (intOf i + 1).toNat)
      case atStart =>
        refine ⟨n + M, (n : Int) + M - 1, Nat.le_refl _, rfl, by omega, ?_, ?_, bF⟩
        · rw [Nat.sub_self]; rfl
        · rw [restB_start _ _ _ _ _ (by omega), List.map_replicate]
          exact HF.out
      case round =>
        obtain ⟨m, i, hm, rfl, him, rfl, hrow, hbW⟩ := hrel
        obtain ⟨wG, rfl⟩ : ∃ wG : World, wG = wr := ⟨_, rfl⟩
        clear D0
        by_cases hm0 : 0 < m
        · obtain ⟨t, rfl⟩ : ∃ t, m = t + 1 := ⟨m - 1, by omega⟩
          obtain rfl : i = (t : Int) := by omega
          clear him
          have hbd := backS_bd (M := M) (ms := ms) (soft := xs) (n := n) (n + M - (t + 1))
          have hbs := backS_step (M := M) (ms := ms) (soft := xs) (n := n) (t := t) (by omega)
          have hst := restB_set (M := M) (ms := ms) (soft := xs) (n := n) (t := t)
          rw [HSS.out] at hbd
          have htb : t < bs.length := by rw [HBL.out]; omega
          obtain ⟨hb1, hb2⟩ := HBR.out t htb
          have hsz : Sz S (tabT M ms xs n (t + 1)) := by rw [← HSS.out]; exact sz_tab (t + 1)
          have hfs : ((List.range (n + M)).map fun j => (tabT M ms xs n (j + 1)).f).getD t [] = (tabT M ms xs n (t + 1)).f := by simp [List.getD, show t < n + M by omega]
          rw [hfs] at hb2
          obtain ⟨F, eF⟩ : ∃ F, (tabT M ms xs n (t + 1)).f = F := ⟨_, rfl⟩
          have hFl := hsz.f
          rw [eF] at hb2 hbs hFl
          obtain ⟨g, eg⟩ : ∃ g, bs.getD t 0 = g := ⟨_, rfl⟩
          rw [eg] at hb1 hb2
          obtain ⟨a, ea⟩ : ∃ a : Nat, backS M ms xs n (n + M - (t + 1)) = (a : Int) := ⟨(backS M ms xs n (n + M - (t + 1))).toNat, by omega⟩
          rw [ea] at hbd hbs hst
          rw [ea]
          have haS : a < S := by omega
          have haF : a < F.length := by rw [hFl]; exact haS
          have k1 := (hb2.below hbW hb2.lt).get (k := a) (by simpa using haF)
          rw [List.getElem_map] at k1
          have hgF : F.getD a 0 = F[a] := by simp [List.getD, haF]
          obtain ⟨f, ef⟩ : ∃ f, F[a] = f := ⟨_, rfl⟩
          rw [ef] at k1 hgF
          rw [Int.toNat_natCast, hgF] at hbs
          obtain ⟨b5, o5, rfl, hb5, k2⟩ := (sl_of_own (n := (bs.map fun g => Value.slice (some ⟨g, 0, none⟩) S S).length) (by simpa using HOA.out)).at_ (k := t) (by simpa using htb)
          have k3 := k2 t (.slice (some ⟨g, 0, none⟩) S S) (by
            rw [List.getElem?_map, List.getElem?_eq_getElem htb]
            have e5 : bs[t] = g := by rw [← eg]; simp [List.getD, htb]
            rw [e5]; rfl)
          have k4 : ∀ W : World, Below wA.heap.size wA W → W.cell? ⟨b5, o5 + t, none⟩ = some (.slice (some ⟨g, 0, none⟩) S S) := fun W hW => (hW.cell (p := ⟨b5, o5 + t, none⟩) hb5).trans k3
          have k5 : ∀ W : World, Below wA.heap.size wA W → W.cell? ⟨g, a, none⟩ = some (.int .i64 f) := fun W hW => ((hW.cell (p := ⟨g, a, none⟩) hb2.lt).trans (hbW.cell (p := ⟨g, a, none⟩) hb2.lt).symm).trans k1
          clear k3 k1
          have k1 := k5 wG hbW
          have k3 := k4 wG hbW
          have p1 := k5 _ (hbW.setCell (p := ⟨wA.heap.size, t, none⟩) (by simp) (.bool ((a : Int) % 2 == 1)))
          have p3 := k4 _ (hbW.setCell (p := ⟨wA.heap.size, t, none⟩) (by simp) (.bool ((a : Int) % 2 == 1)))
          have htbi : (t : Int) < (bs.length : Int) := by omega
          have hai : (a : Int) < (S : Int) := by omega
          have HST := Lib.hid hst
          have HBS := Lib.hid hbs
          have HRW := Lib.hid hrow
          clear hst hbs hfs hsz eF hFl eg ea hgF ef hb2 k2 k4 k5 hrow
          by_cases htn : t < n
          · have q1 := HRW.out.get (k := t) (by simp [restB_len]; exact htn)
            have q2 := HRW.out.frz t
            go_wp2
            go_roundw
            case rel =>
              refine ⟨t, (t : Int) - 1, by omega, rfl, by omega, ?_, ?_, hbW.setCell (by simp) _⟩
              · rw [HBS.out]
              · rw [← HST.out, List.map_set]
                exact HRW.out.put t _
            case measure => simp [intOf]
          · go_wp2
            go_roundw
            case rel =>
              refine ⟨t, (t : Int) - 1, by omega, rfl, by omega, ?_, ?_, hbW⟩
              · rw [HBS.out]
              · rw [← restB_far (by omega)]
                exact HRW.out
            case measure => simp [intOf]
        · obtain rfl : m = 0 := by omega
          obtain rfl : i = -1 := by omega
          have hgl : gs.length = S := by
            have := congrArg List.length HGS.out
            have h2 : Sz S (tabT M ms xs n (n + M)) := by rw [← HSS.out]; exact sz_tab _
            rw [List.length_map, h2.g] at this; exact this
          have hg0 : 0 < gs.length := by omega
          have k1 := (HR11.out.below hbW hz11).get (k := 0) (by simpa using hg0)
          rw [List.getElem_map] at k1
          have hgg : (tabT M ms xs n (n + M)).g.getD 0 none = fl .f32 gs[0] := by rw [← HGS.out]; simp [List.getD, hg0]
          obtain ⟨f, ef⟩ : ∃ f, gs[0] = f := ⟨_, rfl⟩
          rw [ef] at k1 hgg
          have HGG := Lib.hid hgg
          have HRW := Lib.hid hrow
          have hS0 : (0 : Int) < (S : Int) := by omega
          clear hgl hgg ef hrow him
          go_wp2
          go_quiet (fail)
          go_wp2
          go_ret2
          refine ⟨_, _, rfl, HGG.out.symm, ?_, below_drewN (hbw.trans (hbW.mono hzr)) _⟩
          have := HRW.out.own (base := w.heap.size) hzr (by simp [restB_len]; omega)
          rw [restB_end, List.length_map, ← restB_end, restB_len, restB_end] at this
          exact this

end Go.Proofs.Ytopeidmafalklaa


namespace Go.Proofs.Ytopeidmafalklaa
open Go.RowKit Go.Shelf

def bN (c : Bool) : Nat := if c then 1 else 0
theorem bN_bit (c : Bool) : ((bN c : Nat) : Int) = bitI c := by cases c <;> rfl
/-- what the cells of a move hold -/
def MvC (M : Nat) (ms : List Int) (part : List Nat) (last done : Bool) (s : Nat) (c : Bool) (cs : Array Value) : Prop :=
  if done && !(c && last) then
    ∃ x, cs[s * 6 + bN c * 3]? = some (.bool true) ∧ cs[s * 6 + bN c * 3 + 1]? = some (.int .i64 (toS M s c : Nat)) ∧ cs[s * 6 + bN c * 3 + 1 + 1]? = some (.float .f32 x) ∧ fl .f32 x = halfO ms part s c
  else cs[s * 6 + bN c * 3]? = some (.bool false) ∧ cs[s * 6 + bN c * 3 + 1]? = some (.int .i64 0) ∧ cs[s * 6 + bN c * 3 + 1 + 1]? = some (.float .f32 0)
/-- a block of moves, of which those that 'done' names are laid -/
def MRow (M : Nat) (ms : List Int) (part : List Nat) (last : Bool) (done : Nat → Bool → Bool) (W : World) (b S : Nat) : Prop :=
  ∃ cs : Array Value, Obj W b 94 cs ∧ cs.size = S * 6 ∧ ∀ s, s < S → ∀ c, MvC M ms part last (done s c) s c cs
section
variable {M : Nat} {ms : List Int} {part : List Nat} {last : Bool} {done : Nat → Bool → Bool} {W : World} {b S : Nat}
theorem MRow.lt (h : MRow M ms part last done W b S) : b < W.heap.size := h.choose_spec.1.lt
theorem MRow.frz (h : MRow M ms part last done W b S) (k : Nat) : W.frozen? ⟨b, k, none⟩ = false := by
  obtain ⟨cs, hO, _⟩ := h
  exact hO.frozen k
theorem MRow.below {W' : World} {D : Nat} (h : MRow M ms part last done W b S) (hb : Below D W W') (hD : b < D) : MRow M ms part last done W' b S := by
  obtain ⟨cs, hO, h2⟩ := h
  exact ⟨cs, hO.below hb hD, h2⟩
theorem MRow.keep {W' : World} {row : Option Nat} (h : MRow M ms part last done W b S) (hg : W.grownBy W' row) (hne : some b ≠ row) : MRow M ms part last done W' b S := by
  obtain ⟨cs, hO, h2⟩ := h
  exact ⟨cs, hO.kept hg hne, h2⟩
theorem MRow.alloc (h : MRow M ms part last done W b S) (o : Go.Obj) : MRow M ms part last done (W.alloc o) b S := by
  obtain ⟨cs, hO, h2⟩ := h
  exact ⟨cs, hO.alloc o, h2⟩
theorem MRow.far (h : MRow M ms part last done W b S) {c : Nat} (hne : b ≠ c) (k : Nat) (v : Value) : MRow M ms part last done (W.setCell ⟨c, k, none⟩ v) b S := by
  obtain ⟨cs, hO, h2⟩ := h
  exact ⟨cs, hO.far hne k v, h2⟩
theorem MRow.old (h : MRow M ms part last done W b S) {s : Nat} (hs : s < S) {c : Bool} (hc : (done s c && !(c && last)) = false) :
    W.cell? ⟨b, s * 6 + bN c * 3, none⟩ = some (.bool false) ∧ W.cell? ⟨b, s * 6 + bN c * 3 + 1, none⟩ = some (.int .i64 0) ∧ W.cell? ⟨b, s * 6 + bN c * 3 + 1 + 1, none⟩ = some (.float .f32 0) := by
  obtain ⟨cs, hO, _, h2⟩ := h
  have h3 := h2 s hs c
  unfold MvC at h3
  rw [if_neg (by rw [hc]; decide)] at h3
  exact ⟨(hO.cell _).trans h3.1, (hO.cell _).trans h3.2.1, (hO.cell _).trans h3.2.2⟩
theorem MRow.put (h : MRow M ms part last done W b S) {s : Nat} (hs : s < S) {c : Bool} (hc : (c && last) = false) {x : Nat} (hx : fl .f32 x = halfO ms part s c) {done' : Nat → Bool → Bool} (hd1 : done' s c = true) (hd2 : ∀ s' c', s' < S → (s' ≠ s ∨ c' ≠ c) → done' s' c' = done s' c') :
    MRow M ms part last done' (((W.setCell ⟨b, s * 6 + bN c * 3, none⟩ (.bool true)).setCell ⟨b, s * 6 + bN c * 3 + 1, none⟩ (.int .i64 (toS M s c : Nat))).setCell ⟨b, s * 6 + bN c * 3 + 1 + 1, none⟩ (.float .f32 x)) b S := by
  obtain ⟨cs, hO, h2, h3⟩ := h
  have hb1 : bN c ≤ 1 := by cases c <;> decide
  refine ⟨_, ((hO.set _ _).set _ _).set _ _, by simp [h2], fun s' hs' c' => ?_⟩
  have hb2 : bN c' ≤ 1 := by cases c' <;> decide
  by_cases e : s' = s ∧ c' = c
  · obtain ⟨rfl, rfl⟩ := e
    unfold MvC
    rw [hd1, hc, if_pos (by decide)]
    refine ⟨x, ?_, ?_, ?_, hx⟩
    · rw [Array.getElem?_setIfInBounds_ne (by omega), Array.getElem?_setIfInBounds_ne (by omega), Array.getElem?_setIfInBounds_self_of_lt (by omega)]
    · rw [Array.getElem?_setIfInBounds_ne (by omega), Array.getElem?_setIfInBounds_self_of_lt (by simp; omega)]
    · rw [Array.getElem?_setIfInBounds_self_of_lt (by simp; omega)]
  · have hne : s' ≠ s ∨ c' ≠ c := by
      by_cases q : s' = s
      · exact .inr fun q2 => e ⟨q, q2⟩
      · exact .inl q
    have hbn : s' ≠ s ∨ bN c' ≠ bN c := by
      rcases hne with q | q
      · exact .inl q
      · exact .inr (by cases c <;> cases c' <;> first | exact absurd rfl q | decide)
    have key : ∀ j1 j2, j1 ≤ 2 → j2 ≤ 2 → s * 6 + bN c * 3 + j1 ≠ s' * 6 + bN c' * 3 + j2 := by
      intro j1 j2 q1 q2
      omega
    have ks : ∀ j2, j2 ≤ 2 → (((cs.setIfInBounds (s * 6 + bN c * 3) (.bool true)).setIfInBounds (s * 6 + bN c * 3 + 1) (.int .i64 (toS M s c : Nat))).setIfInBounds (s * 6 + bN c * 3 + 1 + 1) (.float .f32 x))[s' * 6 + bN c' * 3 + j2]? = cs[s' * 6 + bN c' * 3 + j2]? := by
      intro j2 q
      rw [Array.getElem?_setIfInBounds_ne (key 2 j2 (by omega) q), Array.getElem?_setIfInBounds_ne (key 1 j2 (by omega) q), Array.getElem?_setIfInBounds_ne (show s * 6 + bN c * 3 ≠ s' * 6 + bN c' * 3 + j2 from key 0 j2 (by omega) q)]
    have k0 := ks 0 (by omega)
    have k1 := ks 1 (by omega)
    have k2 := ks 2 (by omega)
    have h4 := h3 s' hs' c'
    unfold MvC at h4 ⊢
    rw [hd2 s' c' hs' hne]
    split
    · rename_i hh
      rw [if_pos hh] at h4
      obtain ⟨y, y0, y1, y2, y3⟩ := h4
      exact ⟨y, k0.trans y0, k1.trans y1, k2.trans y2, y3⟩
    · rename_i hh
      rw [if_neg hh] at h4
      exact ⟨k0.trans h4.1, k1.trans h4.2.1, k2.trans h4.2.2⟩
end
theorem moves_made {S s : Nat} (hs : s < S) (c : Bool) : (madeCells #[Value.bool false, .int .i64 0, .float .f32 0, .bool false, .int .i64 0, .float .f32 0] (S * 6))[s * 6 + bN c * 3]? = some (.bool false) ∧
    (madeCells #[Value.bool false, .int .i64 0, .float .f32 0, .bool false, .int .i64 0, .float .f32 0] (S * 6))[s * 6 + bN c * 3 + 1]? = some (.int .i64 0) ∧ (madeCells #[Value.bool false, .int .i64 0, .float .f32 0, .bool false, .int .i64 0, .float .f32 0] (S * 6))[s * 6 + bN c * 3 + 1 + 1]? = some (.float .f32 0) := by
  unfold madeCells
  cases c
  · have e0 : (s * 6 + bN false * 3) % 6 = 0 := by show (s * 6 + 0 * 3) % 6 = 0; omega
    have e1 : (s * 6 + bN false * 3 + 1) % 6 = 1 := by show (s * 6 + 0 * 3 + 1) % 6 = 1; omega
    have e2 : (s * 6 + bN false * 3 + 1 + 1) % 6 = 2 := by show (s * 6 + 0 * 3 + 1 + 1) % 6 = 2; omega
    have hl : s * 6 + bN false * 3 + 1 + 1 < S * 6 := by show s * 6 + 0 * 3 + 1 + 1 < S * 6; omega
    refine ⟨?_, ?_, ?_⟩
    · simp [show s * 6 + bN false * 3 < S * 6 by omega, e0]
    · simp [show s * 6 + bN false * 3 + 1 < S * 6 by omega, e1]
    · simp [show s * 6 + bN false * 3 + 1 + 1 < S * 6 by omega, e2]
  · have e0 : (s * 6 + bN true * 3) % 6 = 3 := by show (s * 6 + 1 * 3) % 6 = 3; omega
    have e1 : (s * 6 + bN true * 3 + 1) % 6 = 4 := by show (s * 6 + 1 * 3 + 1) % 6 = 4; omega
    have e2 : (s * 6 + bN true * 3 + 1 + 1) % 6 = 5 := by show (s * 6 + 1 * 3 + 1 + 1) % 6 = 5; omega
    have hl : s * 6 + bN true * 3 + 1 + 1 < S * 6 := by show s * 6 + 1 * 3 + 1 + 1 < S * 6; omega
    refine ⟨?_, ?_, ?_⟩
    · simp [show s * 6 + bN true * 3 < S * 6 by omega, e0]
    · simp [show s * 6 + bN true * 3 + 1 < S * 6 by omega, e1]
    · simp [show s * 6 + bN true * 3 + 1 + 1 < S * 6 by omega, e2]
theorem MRow.new (M : Nat) (ms : List Int) (part : List Nat) (last : Bool) (W : World) (S : Nat) : MRow M ms part last (fun _ _ => false) (W.alloc (.cells (madeCells #[Value.bool false, .int .i64 0, .float .f32 0, .bool false, .int .i64 0, .float .f32 0] (S * 6)) 94)) W.heap.size S := by
  refine ⟨_, Obj.new _ _ _, size_madeCells _ _, fun s hs c => ?_⟩
  unfold MvC
  rw [if_neg (by simp)]
  exact moves_made hs c
theorem run_mkMove (S : Nat) (hS : S ≤ 1048576) (kl kc : IntKind) (w : World) :
    (Instr.makeSlice 82 (.int kl (S : Int)) (.int kc (S : Int))).run Try.prog w = .ok (.slice (some ⟨w.heap.size, 0, none⟩) S S) (w.alloc (.cells (madeCells #[Value.bool false, .int .i64 0, .float .f32 0, .bool false, .int .i64 0, .float .f32 0] (S * 6)) 94)) := by
  have hi := infoMoves
  cases h : Try.prog.info? 94 with
  | none => rw [h] at hi; cases hi
  | some i =>
    rw [h] at hi
    simp only [Option.map_some, Option.some.injEq, Prod.mk.injEq] at hi
    obtain ⟨h1, h2, h3⟩ := hi
    have hb : (i.bytes : Int) * (S : Int) ≤ 281474976710656 := by rw [h3]; omega
    have hr := run_make (P := Try.prog) w 82 94 i (.agg #[.bool false, .int .i64 0, .float .f32 0, .bool false, .int .i64 0, .float .f32 0]) Try.underlying82 h h1 kl kc S S (by omega) (Int.le_refl _) hb (by omega)
    simp only [Int.toNat_natCast, h2] at hr
    exact hr
theorem run_mkLikely (S : Nat) (hS : S ≤ 1048576) (kl kc : IntKind) (w : World) :
    (Instr.makeSlice 84 (.int kl (S : Int)) (.int kc (S : Int))).run Try.prog w = .ok (.slice (some ⟨w.heap.size, 0, none⟩) S S) (w.alloc (.cells (madeCells #[Value.bool false, .float .f32 0] (S * 2)) 87)) := by
  have hi := infoLikely
  cases h : Try.prog.info? 87 with
  | none => rw [h] at hi; cases hi
  | some i =>
    rw [h] at hi
    simp only [Option.map_some, Option.some.injEq, Prod.mk.injEq] at hi
    obtain ⟨h1, h2, h3⟩ := hi
    have hb : (i.bytes : Int) * (S : Int) ≤ 281474976710656 := by rw [h3]; omega
    have hr := run_make (P := Try.prog) w 84 87 i (.agg #[.bool false, .float .f32 0]) Try.underlying84 h h1 kl kc S S (by omega) (Int.le_refl _) hb (by omega)
    simp only [Int.toNat_natCast, h2] at hr
    exact hr
theorem run_mkSum (S : Nat) (hS : S ≤ 1048576) (kl kc : IntKind) (w : World) :
    (Instr.makeSlice 68 (.int kl (S : Int)) (.int kc (S : Int))).run Try.prog w = .ok (.slice (some ⟨w.heap.size, 0, none⟩) S S) (w.alloc (.cells (madeCells #[Value.bool false, .float .f32 0] (S * 2)) 71)) := by
  have hi := infoSum
  cases h : Try.prog.info? 71 with
  | none => rw [h] at hi; cases hi
  | some i =>
    rw [h] at hi
    simp only [Option.map_some, Option.some.injEq, Prod.mk.injEq] at hi
    obtain ⟨h1, h2, h3⟩ := hi
    have hb : (i.bytes : Int) * (S : Int) ≤ 281474976710656 := by rw [h3]; omega
    have hr := run_make (P := Try.prog) w 68 71 i (.agg #[.bool false, .float .f32 0]) Try.underlying68 h h1 kl kc S S (by omega) (Int.le_refl _) hb (by omega)
    simp only [Int.toNat_natCast, h2] at hr
    exact hr

end Go.Proofs.Ytopeidmafalklaa


namespace Go.Proofs.Ytopeidmafalklaa
open Go.RowKit Go.Shelf


set_option maxRecDepth 100000 in
set_option maxHeartbeats 4000000 in
theorem spec_l07Half_c (w : World) (b : Nat) (A : Option Addr) (k cap : Nat) (ms : List Int) (hl : ms.length = k) (hk1 : 1 ≤ k) (hk4 : k ≤ 4) (hr : ∀ x ∈ ms, 0 ≤ x ∧ x ≤ 31) (hb : b < w.heap.size) (f1 : w.cell? ⟨b, 1, none⟩ = some (.slice A k cap)) (hx : Sl w w.heap.size A (ms.map (Value.int .i64)))
    (A2 : Option Addr) (n2 cap2 : Nat) (xs : List Nat) (hl2 : xs.length = n2) (hy : Sl w w.heap.size A2 (xs.map (Value.float .f32))) (hcap2 : n2 ≤ cap2) (t : Nat) (ht : (t + 1) * k ≤ n2) (ht44 : t ≤ 43) (s : Nat) (hs : s ≤ 15) (c : Bool) :
    Calls Try.prog 39 #[.pointer (some ⟨b, 0, none⟩), .slice A2 n2 cap2, .int .i64 (t : Int), .int .i64 (s : Int), .bool c] w fun e w' => ∃ v, e = .returned (.float .f32 v) ∧ fl .f32 v = halfO ms (partL k xs t) s c ∧ Below w.heap.size w w' := by
  have hn2 : 0 < n2 := Nat.lt_of_lt_of_le (Nat.mul_pos (Nat.succ_pos t) hk1) ht
  obtain ⟨bx, ox, eA2, hbx, hcx⟩ := hy.get 0 (by omega)
  obtain ⟨pt, ept⟩ : ∃ pt, partL k xs t = pt := ⟨_, rfl⟩
  have hpt : pt = (xs.drop (t * k)).take k := by rw [← ept]; rfl
  have hk44 : t * k ≤ 43 * 4 := Nat.mul_le_mul ht44 hk4
  have hlo2 : (t + 1) * k = t * k + k := Nat.succ_mul t k
  obtain ⟨lo, elo⟩ : ∃ lo, t * k = lo := ⟨_, rfl⟩
  rw [hlo2] at ht
  rw [elo] at hlo2 hk44 hpt ht
  obtain ⟨hi, ehi⟩ : ∃ hi, lo + k = hi := ⟨_, rfl⟩
  rw [ehi] at hlo2 ht
  have i0 : (0 : Int) ≤ (lo : Int) := by omega
  have i1 : (lo : Int) ≤ (hi : Int) := by omega
  have i2 : (hi : Int) ≤ (cap2 : Int) := by omega
  have i3 : lo ≤ hi := by omega
  have i4 : hi ≤ cap2 := by omega
  have hhi : hi - lo = k := by omega
  have m1 : IntKind.i64.wrap ((t : Int) * (k : Int)) = (lo : Int) := by rw [← elo, ← Int.natCast_mul]; exact IntWalk.i64_in _ (by omega)
  have m2 : IntKind.i64.wrap (((t : Int) + 1) * (k : Int)) = (hi : Int) := by rw [← hlo2]; exact IntWalk.i64_in (((t + 1) * k : Nat) : Int) (by omega)
  have m3 : IntKind.i64.wrap ((t : Int) + 1) = (t : Int) + 1 := IntWalk.i64_in _ (by omega)
  have hy1 : Sl w w.heap.size (some ⟨bx, ox + lo, none⟩) (pt.map (Value.float .f32)) := by
    rw [hpt, List.map_take, List.map_drop]
    rw [eA2] at hy
    exact sl_part hy lo k
  have hptl : pt.length = k := by rw [hpt]; simp; omega
  rw [ept]
  have HX := Lib.hid hx
  have HY := Lib.hid hy1
  have HF := Lib.hid f1
  clear hcx hlo2 elo hpt ehi hx hy hy1 ept
  subst eA2
  go_enter Try.func39, Try.ntmps39
  go_wp2_with fail
  clear f1
  have f1 := HF.out
  have HH := Lib.hid hhi
  have hi_len := HH.out
  have hb0 := Below.refl w.heap.size w
  go_region_with
    (first
      | (go_at_call 75; refine (spec_l07Gain_c w3 0 w3.heap.size w.heap.size S3 _ q3 (sentL ms (2 * (s : Int) + bitI c)) rfl (by rw [sentL_len]; omega) (sl_of_own hp3) (some ⟨bx, ox + lo, none⟩) k _ pt hptl (by rw [sentL_len]; omega) (by omega) hy3).mono ?_; rintro e w4 ⟨x, rfl, hx4, q4, rfl⟩)
      | (go_at_call 76; refine (spec_l07Sends_c w.drew b w.heap.size A k cap ms hl hk4 hr hb (Nat.le_refl _) HX.out (s : Int) c (by omega) (by omega) f1).mono ?_; rintro e w3 ⟨v3, rfl, ho3, hb3⟩; have hb3 := below_undrew hb3; obtain ⟨S3, q3, rfl, hp3⟩ := ho3.opn; have hy3 := HY.out.below hb3))
  go_wp2
  go_ret
  refine ⟨_, rfl, ?_, below_drewN hb3 _⟩
  show fl .f32 (fres .mul .f32 1056964608 x w3.tape (w3.drewN q4).drawn) = _
  rw [fl_fres, hx4, sentL_len, fl0, show fl .f32 1056964608 = some 1056964608 by decide]
  rfl

end Go.Proofs.Ytopeidmafalklaa


namespace Go.Proofs.Ytopeidmafalklaa
open Go.RowKit Go.Shelf

theorem infoPick : (Try.prog.info? 110).map (fun i => (i.zero, i.size, i.bytes)) = some (some (.agg #[.bool false, .float .f32 0, .int .i64 0]), 3, 16) := by kernel_rfl
theorem infoPickS : (Try.prog.info? 108).map (fun i => (i.zero, i.size, i.bytes)) = some (some (.slice none 0 0), 1, 24) := by kernel_rfl
/-- a block with the picks of a table -/
def PRow (W : World) (b S : Nat) (T : Tb) (ns : List Nat) : Prop :=
  (∃ cs : Array Value, Obj W b 110 cs ∧ cs.size = S * 3 ∧ ∀ s, s < S → cs[s * 3]? = some (.bool (T.h.getD s false)) ∧ cs[s * 3 + 1]? = some (.float .f32 (ns.getD s 0)) ∧ cs[s * 3 + 1 + 1]? = some (.int .i64 (T.f.getD s 0))) ∧ Sz S T ∧ ns.map (fl .f32) = T.g
theorem PRow.lt {W : World} {b S : Nat} {T : Tb} {ns : List Nat} (h : PRow W b S T ns) : b < W.heap.size := h.1.choose_spec.1.lt
theorem PRow.len {W : World} {b S : Nat} {T : Tb} {ns : List Nat} (h : PRow W b S T ns) : ns.length = S := by
  have := congrArg List.length h.2.2
  rw [List.length_map, h.2.1.g] at this
  exact this
theorem PRow.cells {W : World} {b S : Nat} {T : Tb} {ns : List Nat} (h : PRow W b S T ns) {s : Nat} (hs : s < S) :
    W.cell? ⟨b, s * 3, none⟩ = some (.bool (T.h.getD s false)) ∧ W.cell? ⟨b, s * 3 + 1, none⟩ = some (.float .f32 (ns.getD s 0)) ∧ W.cell? ⟨b, s * 3 + 1 + 1, none⟩ = some (.int .i64 (T.f.getD s 0)) := by
  obtain ⟨⟨cs, hO, _, hc⟩, _⟩ := h
  obtain ⟨h1, h2, h3⟩ := hc s hs
  exact ⟨(hO.cell _).trans h1, (hO.cell _).trans h2, (hO.cell _).trans h3⟩
theorem PRow.frz {W : World} {b S : Nat} {T : Tb} {ns : List Nat} (h : PRow W b S T ns) (k : Nat) : W.frozen? ⟨b, k, none⟩ = false := by
  obtain ⟨⟨cs, hO, _⟩, _⟩ := h
  exact hO.frozen k
theorem PRow.below {W W' : World} {b D S : Nat} {T : Tb} {ns : List Nat} (h : PRow W b S T ns) (hb : Below D W W') (hD : b < D) : PRow W' b S T ns := by
  obtain ⟨⟨cs, hO, h2⟩, h3⟩ := h
  exact ⟨⟨cs, hO.below hb hD, h2⟩, h3⟩
theorem PRow.kept {W W' : World} {row : Option Nat} {b S : Nat} {T : Tb} {ns : List Nat} (h : PRow W b S T ns) (hg : W.grownBy W' row) (hne : some b ≠ row) : PRow W' b S T ns := by
  obtain ⟨⟨cs, hO, h2⟩, h3⟩ := h
  exact ⟨⟨cs, hO.kept hg hne, h2⟩, h3⟩
theorem PRow.alloc {W : World} {b S : Nat} {T : Tb} {ns : List Nat} (h : PRow W b S T ns) (o : Go.Obj) : PRow (W.alloc o) b S T ns := by
  obtain ⟨⟨cs, hO, h2⟩, h3⟩ := h
  exact ⟨⟨cs, hO.alloc o, h2⟩, h3⟩
theorem PRow.far {W : World} {b c S : Nat} {T : Tb} {ns : List Nat} (h : PRow W b S T ns) (hne : b ≠ c) (k : Nat) (v : Value) : PRow (W.setCell ⟨c, k, none⟩ v) b S T ns := by
  obtain ⟨⟨cs, hO, h2⟩, h3⟩ := h
  exact ⟨⟨cs, hO.far hne k v, h2⟩, h3⟩
theorem PRow.put {W : World} {b S : Nat} {T : Tb} {ns : List Nat} (h : PRow W b S T ns) {to : Nat} (hto : to < S) (v : Nat) (x : Option Nat) (hv : fl .f32 v = x) (s : Int) (h0 : 0 ≤ s) (h1 : s < S) :
    PRow (((W.setCell ⟨b, to * 3, none⟩ (.bool true)).setCell ⟨b, to * 3 + 1, none⟩ (.float .f32 v)).setCell ⟨b, to * 3 + 1 + 1, none⟩ (.int .i64 s)) b S ⟨T.h.set to true, T.g.set to x, T.f.set to s⟩ (ns.set to v) := by
  have hln := h.len
  obtain ⟨⟨cs, hO, h2, h3⟩, h4, h5⟩ := h
  refine ⟨⟨_, ((hO.set _ _).set _ _).set _ _, by simp [h2], fun i hi => ?_⟩, ⟨by simp [h4.h], by simp [h4.g], by simp [h4.f], fun y hy => ?_⟩, by rw [List.map_set, h5, hv]⟩
  · obtain ⟨k1, k2, k3⟩ := h3 i hi
    by_cases e : to = i
    · subst e
      have t1 : to < T.h.length := by rw [h4.h]; exact hi
      have t2 : to < ns.length := by rw [hln]; exact hi
      have t3 : to < T.f.length := by rw [h4.f]; exact hi
      have u1 : (T.h.set to true).getD to false = true := by simp [List.getD, t1]
      have u2 : (ns.set to v).getD to 0 = v := by simp [List.getD, t2]
      have u3 : (T.f.set to s).getD to 0 = s := by simp [List.getD, t3]
      rw [u1, u2, u3]
      refine ⟨?_, ?_, ?_⟩
      · rw [Array.getElem?_setIfInBounds_ne (by omega), Array.getElem?_setIfInBounds_ne (by omega), Array.getElem?_setIfInBounds_self_of_lt (by omega)]
      · rw [Array.getElem?_setIfInBounds_ne (by omega), Array.getElem?_setIfInBounds_self_of_lt (by simp; omega)]
      · rw [Array.getElem?_setIfInBounds_self_of_lt (by simp; omega)]
    · have u1 : (T.h.set to true).getD i false = T.h.getD i false := by simp [List.getD, List.getElem?_set_ne e]
      have u2 : (ns.set to v).getD i 0 = ns.getD i 0 := by simp [List.getD, List.getElem?_set_ne e]
      have u3 : (T.f.set to s).getD i 0 = T.f.getD i 0 := by simp [List.getD, List.getElem?_set_ne e]
      rw [u1, u2, u3]
      refine ⟨?_, ?_, ?_⟩
      · rw [Array.getElem?_setIfInBounds_ne (by omega), Array.getElem?_setIfInBounds_ne (by omega), Array.getElem?_setIfInBounds_ne (by omega)]; exact k1
      · rw [Array.getElem?_setIfInBounds_ne (by omega), Array.getElem?_setIfInBounds_ne (by omega), Array.getElem?_setIfInBounds_ne (by omega)]; exact k2
      · rw [Array.getElem?_setIfInBounds_ne (by omega), Array.getElem?_setIfInBounds_ne (by omega), Array.getElem?_setIfInBounds_ne (by omega)]; exact k3
  · rcases List.mem_or_eq_of_mem_set hy with h6 | h6
    · exact h4.b y h6
    · rw [h6]; exact ⟨h0, h1⟩
theorem picks_made {S s : Nat} (hs : s < S) : (madeCells #[Value.bool false, .float .f32 0, .int .i64 0] (S * 3))[s * 3]? = some (.bool false) ∧ (madeCells #[Value.bool false, .float .f32 0, .int .i64 0] (S * 3))[s * 3 + 1]? = some (.float .f32 0) ∧ (madeCells #[Value.bool false, .float .f32 0, .int .i64 0] (S * 3))[s * 3 + 1 + 1]? = some (.int .i64 0) := by
  unfold madeCells
  have e0 : (s * 3) % 3 = 0 := by omega
  have e1 : (s * 3 + 1) % 3 = 1 := by omega
  have e2 : (s * 3 + 1 + 1) % 3 = 2 := by omega
  refine ⟨?_, ?_, ?_⟩
  · simp [show s * 3 < S * 3 by omega]
  · simp [show s * 3 + 1 < S * 3 by omega, e1]
  · simp [show s * 3 + 1 + 1 < S * 3 by omega, e2]
theorem PRow.new (W : World) {S : Nat} (hS : 1 ≤ S) : PRow (W.alloc (.cells (madeCells #[Value.bool false, .float .f32 0, .int .i64 0] (S * 3)) 110)) W.heap.size S (newT S) (List.replicate S 0) := by
  refine ⟨⟨_, Obj.new _ _ _, size_madeCells _ _, fun s hs => ?_⟩, sz_new hS, by unfold newT; simp only [List.map_replicate, fl0]⟩
  obtain ⟨h1, h2, h3⟩ := picks_made hs
  have u1 : (newT S).h.getD s false = false := by simp [newT, List.getD, hs]
  have u2 : (List.replicate S 0).getD s 0 = 0 := by simp [List.getD, hs]
  have u3 : (newT S).f.getD s 0 = 0 := by simp [newT, List.getD, hs]
  rw [u1, u2, u3]
  exact ⟨h1, h2, h3⟩
theorem PRow.start {W : World} {b S : Nat} (h : PRow W b S (newT S) (List.replicate S 0)) (hS : 1 ≤ S) : PRow (W.setCell ⟨b, 0, none⟩ (.bool true)) b S (startT S) (List.replicate S 0) := by
  obtain ⟨⟨cs, hO, h2, h3⟩, _, _⟩ := h
  refine ⟨⟨_, hO.set _ _, by simp [h2], fun i hi => ?_⟩, sz_start hS, by unfold startT; simp only [List.map_replicate, fl0]⟩
  obtain ⟨k1, k2, k3⟩ := h3 i hi
  by_cases e : i = 0
  · subst e
    have u1 : (startT S).h.getD 0 false = true := by simp [startT, List.getD, hi]
    rw [u1]
    refine ⟨?_, ?_, ?_⟩
    · rw [Array.getElem?_setIfInBounds_self_of_lt (by omega)]
    · rw [Array.getElem?_setIfInBounds_ne (by omega)]; exact k2
    · rw [Array.getElem?_setIfInBounds_ne (by omega)]; exact k3
  · have u1 : (startT S).h.getD i false = (newT S).h.getD i false := by simp [startT, newT, List.getD, List.getElem?_set_ne (show 0 ≠ i by omega)]
    rw [u1]
    refine ⟨?_, ?_, ?_⟩
    · rw [Array.getElem?_setIfInBounds_ne (by omega)]; exact k1
    · rw [Array.getElem?_setIfInBounds_ne (by omega)]; exact k2
    · rw [Array.getElem?_setIfInBounds_ne (by omega)]; exact k3
theorem run_mkPick (S : Nat) (hS : S ≤ 1048576) (kl kc : IntKind) (w : World) :
    (Instr.makeSlice 108 (.int kl (S : Int)) (.int kc (S : Int))).run Try.prog w = .ok (.slice (some ⟨w.heap.size, 0, none⟩) S S) (w.alloc (.cells (madeCells #[Value.bool false, .float .f32 0, .int .i64 0] (S * 3)) 110)) := by
  have hi := infoPick
  cases h : Try.prog.info? 110 with
  | none => rw [h] at hi; cases hi
  | some i =>
    rw [h] at hi
    simp only [Option.map_some, Option.some.injEq, Prod.mk.injEq] at hi
    obtain ⟨h1, h2, h3⟩ := hi
    have hb : (i.bytes : Int) * (S : Int) ≤ 281474976710656 := by rw [h3]; omega
    have hr := run_make (P := Try.prog) w 108 110 i (.agg #[.bool false, .float .f32 0, .int .i64 0]) Try.underlying108 h h1 kl kc S S (by omega) (Int.le_refl _) hb (by omega)
    simp only [Int.toNat_natCast, h2] at hr
    exact hr

end Go.Proofs.Ytopeidmafalklaa


namespace Go.Proofs.Ytopeidmafalklaa
open Go.RowKit Go.Shelf
attribute [local go_sem] Oper.semAt_some

/-- a slice that a call made: nil, or at the head of a row -/
def RowA (A : Option Addr) (n cap : Nat) : Prop := (A = none ∧ n = 0 ∧ cap = 0) ∨ ∃ g, A = some ⟨g, 0, none⟩ ∧ n ≤ cap ∧ cap ≤ maxLen
theorem rowA_of {w : World} {base : Nat} {e : TypeId} {A : Option Addr} {n cap : Nat} {xs : List Value} (h : w.ownsRow base e 1 (.slice A n cap) n xs) : RowA A n cap := by
  rcases h.2 with ⟨h1, h2⟩ | ⟨g, c, cur, h1, _, _, h2, h3, _⟩
  · injection h1 with e1 e2 e3
    exact .inl ⟨e1, e2, e3⟩
  · injection h1 with e1 e2 e3
    subst e3
    exact .inr ⟨g, e1, h2, h3⟩
/-- the tables behind the parts of a list of places -/
def seqT (M : Nat) (ms : List Int) (soft : List Nat) (n : Nat) (l : List Nat) : Nat → Tb
  | 0 => startT (2 ^ M)
  | j + 1 => rowT M ms (partL ms.length soft (l.getD j 0)) (decide (n ≤ j)) (seqT M ms soft n l j) (2 ^ M)
theorem seqT_app {M : Nat} {ms : List Int} {soft : List Nat} {n : Nat} {l : List Nat} {x : Nat} : ∀ j, j ≤ l.length → seqT M ms soft n (l ++ [x]) j = seqT M ms soft n l j
  | 0, _ => rfl
  | j + 1, h => by
    unfold seqT
    rw [seqT_app j (by omega)]
    have : (l ++ [x]).getD j 0 = l.getD j 0 := by simp only [List.getD, List.getElem?_append_left (show j < l.length by omega)]
    rw [this]
theorem seqT_range {M : Nat} {ms : List Int} {soft : List Nat} {n N : Nat} : ∀ j, j ≤ N → seqT M ms soft n (List.range N) j = tabT M ms soft n j
  | 0, _ => rfl
  | j + 1, h => by
    unfold seqT tabT
    rw [seqT_range j (by omega)]
    have : (List.range N).getD j 0 = j := by simp [List.getD, show j < N by omega]
    rw [this]
theorem seqT_next {M : Nat} {ms : List Int} {soft : List Nat} {n : Nat} {l : List Nat} {x : Nat} : seqT M ms soft n (l ++ [x]) (l.length + 1) = rowT M ms (partL ms.length soft x) (decide (n ≤ l.length)) (seqT M ms soft n l l.length) (2 ^ M) := by
  have h : (l ++ [x]).getD l.length 0 = x := by simp [List.getD]
  show rowT M ms (partL ms.length soft ((l ++ [x]).getD l.length 0)) _ _ _ = _
  rw [seqT_app l.length (Nat.le_refl _), h]
theorem sz_seq {M : Nat} {ms : List Int} {soft : List Nat} {n : Nat} {l : List Nat} : ∀ t, Sz (2 ^ M) (seqT M ms soft n l t)
  | 0 => sz_start (Nat.pow_pos (by decide))
  | _ + 1 => sz_row _ (Nat.le_refl _)
theorem newT_h {S s : Nat} : (newT S).h.getD s false = false := by
  unfold newT
  simp only [List.getD, List.getElem?_replicate]
  split <;> rfl
/-- the slice of a block of picks -/
def psV (S g : Nat) : Value := .slice (some ⟨g, 0, none⟩) S S
/-- what the loop over parts keeps -/
structure BWI (w : World) (D S : Nat) (Q : Nat → Tb) (t : Nat) (C : Array Value) (P7 P9 P10 B1 B2 : Nat) (u7 u1 u2 : Value) (W : World) : Prop where
  bel : Below w.heap.size w W
  c : Obj W w.heap.size 29 C
  x7 : Boxed W P7 3 u7
  x1 : Boxed W B1 25 u1
  x2 : Boxed W B2 3 u2
  now : ∃ b9 ns, w.heap.size ≤ b9 ∧ Boxed W P9 108 (psV S b9) ∧ PRow W b9 S (Q t) ns
  steps : ∃ bs : List Nat, bs.length = t ∧ Bufd W D P10 111 108 (bs.map (psV S)) ∧ ∀ i, i < t → w.heap.size ≤ bs.getD i 0 ∧ ∃ ns, PRow W (bs.getD i 0) S (Q (i + 1)) ns
theorem obj_keep {W W' : World} {B k : Nat} {t : TypeId} {cs : Array Value} {row : Option Nat} (h : Obj W k t cs) (hg : W.grownBy W' row) (hr : ∀ r, row = some r → B ≤ r ∧ ∃ o : Go.Obj, W.heap[r]? = some o ∧ o.isCells = false) : Obj W' k t cs :=
  h.kept hg (fun e => by
    obtain ⟨_, o, ho, hc⟩ := hr k e.symm
    rw [show W.heap[k]? = _ from h] at ho
    cases ho
    cases hc)
theorem prow_keep {W W' : World} {B k S : Nat} {T : Tb} {ns : List Nat} {row : Option Nat} (h : PRow W k S T ns) (hg : W.grownBy W' row) (hr : ∀ r, row = some r → B ≤ r ∧ ∃ o : Go.Obj, W.heap[r]? = some o ∧ o.isCells = false) : PRow W' k S T ns := by
  obtain ⟨⟨cs, hO, h2⟩, h3⟩ := h
  exact ⟨⟨cs, obj_keep hO hg hr, h2⟩, h3⟩
theorem bwi_own {β : Type} (w : World) (D S : Nat) (Q : β → Nat → Tb) (t : β → Nat) (C : Array Value) (P7 P9 P10 B1 B2 : Nat) (u7 u1 u2 : Value) (B : Nat) (h2 : w.heap.size ≤ B) :
    OwnFrom B (fun s W => BWI w D S (Q s) (t s) C P7 P9 P10 B1 B2 u7 u1 u2 W) := by
  rintro s W W' row ⟨a1, a2, a3, a4, a5, ⟨b9, ns, c1, c2, c3⟩, ⟨bs, d1, d2, d3⟩⟩ hg hr
  refine ⟨a1.grown hg a1.size fun k hk => Nat.le_trans h2 (hr k hk).1, obj_keep a2 hg hr, boxed_keep a3 hg hr, boxed_keep a4 hg hr, boxed_keep a5 hg hr, ⟨b9, ns, c1, boxed_keep c2 hg hr, prow_keep c3 hg hr⟩, ⟨bs, d1, ?_, fun i hi => ?_⟩⟩
  · exact (bufd_own D P10 111 108 (fun _ : Unit => bs.map (psV S))).from B () W W' row d2 hg hr
  · obtain ⟨e1, ns, e2⟩ := d3 i hi
    exact ⟨e1, ns, prow_keep e2 hg hr⟩

theorem obj_ne {W : World} {a b : Nat} {t u : TypeId} {cs cs2 : Array Value} (h : Obj W a t cs) (h2 : Obj W b u cs2) (hne : t ≠ u) : a ≠ b := by
  rintro rfl
  have := (show W.heap[a]? = _ from h).symm.trans (show W.heap[a]? = _ from h2)
  simp at this
  exact hne this.2
theorem Appd.obj {W w1 : World} {D Bo : Nat} {T e : TypeId} {v v' : Value} {N n : Nat} {ys xs : List Value} (h : Appd W w1 D Bo T e v v' N ys) (hbox : Boxed W Bo T v) (hrow : W.ownsRow D e 1 v n xs) {k : Nat} {t : TypeId} {cs : Array Value} (hk : Obj W k t cs) (hte : t ≠ e) (htT : t ≠ T) : Obj (w1.setCell ⟨Bo, 0, none⟩ v') k t cs :=
  (h.keep k hk.lt (Obj.not_row hk hte hrow) (obj_ne hk (show Obj W Bo T #[v] from hbox) htT)).trans hk
theorem Appd.prow {W w1 : World} {D Bo : Nat} {T e : TypeId} {v v' : Value} {N n : Nat} {ys xs : List Value} (h : Appd W w1 D Bo T e v v' N ys) (hbox : Boxed W Bo T v) (hrow : W.ownsRow D e 1 v n xs) (hte : 110 ≠ e) (htT : 110 ≠ T) {k S : Nat} {Tb' : Tb} {ns : List Nat} (hk : PRow W k S Tb' ns) : PRow (w1.setCell ⟨Bo, 0, none⟩ v') k S Tb' ns := by
  obtain ⟨⟨cs, hO, h2⟩, h3⟩ := hk
  exact ⟨⟨cs, h.obj hbox hrow hO hte htT, h2⟩, h3⟩
theorem prow_ne {W : World} {b c S : Nat} {T : Tb} {ns : List Nat} {t : TypeId} {v : Value} (h : PRow W b S T ns) (h2 : Boxed W c t v) (hne : 110 ≠ t) : b ≠ c := by
  obtain ⟨⟨cs, hO, _⟩, _⟩ := h
  exact obj_ne hO (show Obj W c t #[v] from h2) hne
theorem keeps_below {W W' : World} (h : Below W.heap.size W W') : KeepsOthers W W' := ⟨h.size, fun k _ hk _ => (h.block k (Array.getElem?_eq_some_iff.1 hk).1).trans hk⟩
theorem cells1 (w : World) (e : TypeId) (u : Value) (j : Nat) (u' : Value) (h : [u][j]? = some u') : (w.alloc (.cells #[u] e)).cell? ⟨w.heap.size, j, none⟩ = some u' := by
  rw [(Obj.new w e #[u]).cell j, ← h]
  simp
theorem boxed_below {W W' : World} {D k : Nat} {t : TypeId} {v : Value} (h : Boxed W k t v) (hb : Below D W W') (hD : k < D) : Boxed W' k t v := Obj.below (show Obj W k t #[v] from h) hb hD

theorem Boxed.not_addr {W : World} {b D : Nat} {t : TypeId} {u : Value} (_ : Boxed W b t u) {e : TypeId} {size k : Nat} {v : Value} {xs : List Value} (hr : W.ownsRow D e size v k xs) (hb : b < D) : v.ownBlock ≠ some b := by
  rcases hr.2 with ⟨rfl, _⟩ | ⟨g, cap, cur, rfl, hg, _⟩
  · simp [Value.ownBlock]
  · intro e'
    obtain rfl : g = b := by simpa [Value.ownBlock] using e'
    omega
theorem prow_ne2 {W : World} {b c S : Nat} {T : Tb} {ns : List Nat} {v : Value} (h : PRow W b S T ns) (h2 : Boxed W c 108 v) : c ≠ b := Ne.symm (prow_ne h h2 (by decide))
theorem bwi_step {w wA wD w6 : World} {D S t k0 : Nat} {Q Q' : Nat → Tb} {C : Array Value} {P7 P9 P10 B1 B2 bN : Nat} {u7 u1 u2 uo v5 v6 : Value} {bs ns : List Nat} {ys : List Value}
    (hbw : Below w.heap.size w wA) (hOC : Obj wA w.heap.size 29 C) (hX7 : Boxed wA P7 3 u7) (hX1 : Boxed wA B1 25 u1) (hX2 : Boxed wA B2 3 u2) (hX9 : Boxed wA P9 108 uo)
    (hbl : bs.length = t) (hbr : ∀ i, i < t → w.heap.size ≤ bs.getD i 0 ∧ ∃ ns, PRow wA (bs.getD i 0) S (Q (i + 1)) ns) (hbD : Below wA.heap.size wA wD) (hm : PRow wD bN S (Q' (t + 1)) ns) (hbN : w.heap.size ≤ bN) (hbN2 : P9 ≠ bN)
    (k1 : Boxed wD P10 111 v5) (k2 : wD.ownsRow D 108 1 v5 t ys) (A6 : Appd wD w6 D P10 111 108 v5 v6 k0 (bs.map (psV S) ++ [psV S bN]))
    (hP9 : P9 < D) (hwD : w.heap.size ≤ D) (hwP : w.heap.size ≤ P9) (h17 : P9 ≠ P7) (h11 : P9 ≠ B1) (h12 : P9 ≠ B2) (h19 : P9 ≠ P10) (h1P : P10 ≠ B1) (h2P : P10 ≠ B2) (h7P : P10 ≠ P7) (hcP : P9 ≠ w.heap.size)
    (hQ : ∀ j, j ≤ t → Q' j = Q j) :
    BWI w D S Q' (t + 1) C P7 P9 P10 B1 B2 u7 u1 u2 ((w6.setCell ⟨P10, 0, none⟩ v6).setCell ⟨P9, 0, none⟩ (psV S bN)) := by
  have hz := hbw.size
  have hX9D := boxed_below hX9 hbD hX9.lt
  have hX96 := boxed_below hX9D A6.bel hP9
  have hOC2 := A6.obj k1 k2 (hOC.below hbD hOC.lt) (by decide) (by decide)
  have hX72 := A6.box k2 (boxed_below hX7 hbD hX7.lt) (by decide) (Ne.symm h7P)
  have hX12 := A6.box k2 (boxed_below hX1 hbD hX1.lt) (by decide) (Ne.symm h1P)
  have hX22 := A6.box k2 (boxed_below hX2 hbD hX2.lt) (by decide) (Ne.symm h2P)
  have hm2 := A6.prow k1 k2 (by decide) (by decide) hm
  refine ⟨(hbw.trans ((hbD.mono hz).trans (A6.bel.mono hwD))).setCell hwP _, hOC2.far (Ne.symm hcP) _ _, hX72.other (Ne.symm h17) _, hX12.other (Ne.symm h11) _, hX22.other (Ne.symm h12) _,
    ⟨bN, ns, hbN, hX96.set _, hm2.far (Ne.symm hbN2) _ _⟩, ⟨bs ++ [bN], by simp [hbl], ?_, fun i hi => ?_⟩⟩
  · obtain ⟨v, q1, q2, q3⟩ := A6.buf
    rw [List.map_append]
    refine ⟨v, q1.other (Ne.symm h19) _, q2.kept (grownBy_setCell' _ _ _) (.inr ?_), q3⟩
    exact Boxed.not_addr hX96 q2 hP9
  · by_cases h : i < t
    · obtain ⟨e1, ns1, e2⟩ := hbr i h
      have e3 : (bs ++ [bN]).getD i 0 = bs.getD i 0 := by simp only [List.getD, List.getElem?_append_left (show i < bs.length by omega)]
      rw [e3, hQ (i + 1) h]
      have e4 := A6.prow k1 k2 (by decide) (by decide) (e2.below hbD e2.lt)
      exact ⟨e1, ns1, e4.far (Ne.symm (prow_ne2 e4 hX96)) _ _⟩
    · obtain rfl : i = t := by omega
      have e3 : (bs ++ [bN]).getD i 0 = bN := by rw [← hbl]; simp [List.getD]
      rw [e3]
      exact ⟨hbN, ns, hm2.far (Ne.symm hbN2) _ _⟩

/-- a way is found -/
def bestOk (m : Int) (ms : List Int) (xs : List Nat) : Bool := sentOk m ms xs && finB (wayGain m.toNat ms xs (sentN m ms xs).toNat)
def bestL (m : Int) (ms : List Int) (xs : List Nat) : List Bool := if bestOk m ms xs then wayBits m.toNat ms xs (sentN m ms xs).toNat else []
def bestG (m : Int) (ms : List Int) (xs : List Nat) : Option Nat := if bestOk m ms xs then wayGain m.toNat ms xs (sentN m ms xs).toNat else some 0
theorem best_no {m : Int} {ms : List Int} {xs : List Nat} (h : bestOk m ms xs = false) : bestL m ms xs = [] ∧ bestG m ms xs = some 0 := by unfold bestL bestG; rw [h]; exact ⟨rfl, rfl⟩
/-- what is handed back -/
def BestPost (w : World) (m : Int) (ms : List Int) (xs : List Nat) (e : Ending) (w' : World) : Prop :=
  ∃ v g, e = .returned (.tuple #[v, .float .f32 g, .bool (bestOk m ms xs)]) ∧ fl .f32 g = bestG m ms xs ∧ Ow w' w.heap.size 4 v ((bestL m ms xs).map Value.bool) ∧ Below w.heap.size w w'
theorem best_fail {w w' : World} {m : Int} {ms : List Int} {xs : List Nat} (h : bestOk m ms xs = false) (hb : Below w.heap.size w w') : BestPost w m ms xs (.returned (.tuple #[.slice none 0 0, .float .f32 0, .bool false])) w' := by
  refine ⟨.slice none 0 0, 0, by rw [h], by rw [(best_no h).2, fl0], ?_, hb⟩
  rw [(best_no h).1]
  exact ⟨rfl, .inl ⟨rfl, rfl⟩⟩
theorem sent_facts {m : Int} {ms : List Int} {xs : List Nat} (h : sentOk m ms xs = true) : ∃ M n : Nat, m = (M : Int) ∧ 1 ≤ M ∧ M ≤ 4 ∧ 1 ≤ ms.length ∧ ms.length ≤ 4 ∧ (∀ x ∈ ms, 0 ≤ x ∧ x ≤ 31) ∧ n ≤ 40 ∧ sentN m ms xs = (n : Int) ∧ (n + M) * ms.length = xs.length ∧ xs.length ≤ 160 := by
  unfold sentOk sentB at h
  simp only [Bool.and_eq_true, decide_eq_true_eq, beq_iff_eq] at h
  obtain ⟨⟨⟨⟨h1, h2⟩, h3⟩, h4⟩, h5⟩ := h
  obtain ⟨m1, m4, k1, k4, hr⟩ := vc_facts h1
  obtain ⟨M, rfl⟩ : ∃ M : Nat, m = M := ⟨m.toNat, by omega⟩
  have h6 : xs.length ≤ 160 := by
    unfold softB at h2
    rw [Bool.and_eq_true, decide_eq_true_eq] at h2
    exact h2.1
  refine ⟨M, (sentN M ms xs).toNat, rfl, by omega, by omega, k1, k4, hr, by omega, by omega, ?_, h6⟩
  have e1 : (sentN M ms xs).toNat + M = xs.length / ms.length := by unfold sentN at *; omega
  rw [e1, Nat.div_mul_cancel (Nat.dvd_of_mod_eq_zero h3)]


set_option maxRecDepth 100000 in
set_option maxHeartbeats 8000000 in
theorem impl_BestWay_c (w : World) (m : Int) (A : Option Addr) (k cap : Nat) (ms : List Int) (hl : ms.length = k) (hk : k ≤ 1048576) (hx : Sl w w.heap.size A (ms.map (Value.int .i64)))
    (A2 : Option Addr) (n2 cap2 : Nat) (xs : List Nat) (hl2 : xs.length = n2) (hn2 : n2 ≤ 1048576) (hy : Sl w w.heap.size A2 (xs.map (Value.float .f32))) (hA : RowA A2 n2 cap2) :
    Calls Try.prog 22 #[.agg #[.int .i64 m, .slice A k cap], .slice A2 n2 cap2] w (BestPost w m ms xs) := by
  obtain ⟨w1, e1⟩ : ∃ q : World, q = w.alloc (.cells #[.int .i64 m, .slice A k cap] 29) := ⟨_, rfl⟩
  have b1 : Below w.heap.size w w1 := by rw [e1]; exact (Below.refl _ _).alloc (Nat.le_refl _) _
  have z1 : w1.heap.size = w.heap.size + 1 := by rw [e1]; simp
  have hO : Obj w1 w.heap.size 29 #[.int .i64 m, .slice A k cap] := by rw [e1]; exact Obj.new _ _ _
  have HV := Lib.hid (impl_sentBits_c w1 m A k cap ms hl hk ((hx.below b1).more b1.size) A2 n2 cap2 xs hl2 hn2 ((hy.below b1).more b1.size))
  obtain ⟨⟨C0, C1⟩, -⟩ := hO.two
  have HO := Lib.hid hO
  have HX := Lib.hid hx
  have HY := Lib.hid hy
  clear hx hy hO
  cases hs : sentOk m ms xs
  · have hbo : bestOk m ms xs = false := by unfold bestOk; rw [hs]; rfl
    rw [hs] at HV
    have HBO := Lib.hid hbo
    clear hs hbo
    refine calls_marks Try.func22 rfl ?_
    simp only [Try.ntmps22, List.size_toArray, List.length_cons, List.length_nil, Nat.reduceAdd, Nat.reduceSub, Array.replicate_succ, Array.replicate_zero, List.push_toArray, List.append_toArray, List.nil_append, List.cons_append]
    go_wp2_with (rw [← e1]; clear e1)
    refine HV.out.mono ?_
    rintro e w2 ⟨rfl, b2⟩
    go_wp2
    refine marks_ret0 (results_tmp3 rfl _ _ _) rfl ?_
    exact best_fail HBO.out ((b1.trans (b2.mono b1.size)).alloc (by have := b2.size; omega) _)
  · obtain ⟨M, n, rfl, hM1, hM4, hk1, hk4, hr, hn, hsn, hnn, hx160⟩ := sent_facts hs
    rw [hl] at hk1 hk4 hnn
    rw [hl2] at hnn hx160
    rw [hs] at HV
    have hsv : sentV (M : Int) ms xs = (n : Int) := by
      have hsb : sentB (M : Int) ms xs = true := by
        unfold sentOk at hs
        simp only [Bool.and_eq_true] at hs
        exact hs.1.1
      unfold sentV
      rw [hsb, if_pos rfl, hsn]
    rw [hsv] at HV
    have hn2p : 0 < n2 := by rw [← hnn]; exact Nat.mul_pos (by omega) (by omega)
    obtain ⟨g2, rfl, hcap, hcapm⟩ : ∃ g2, A2 = some ⟨g2, 0, none⟩ ∧ n2 ≤ cap2 ∧ cap2 ≤ maxLen := by
      rcases hA with ⟨_, h0, _⟩ | h
      · omega
      · exact h
    unfold maxLen at hcapm
    obtain ⟨S, hS⟩ : ∃ S : Nat, 2 ^ M = S := ⟨_, rfl⟩
    have hSI : (2 : Int) ^ M = (S : Int) := by rw [← hS]; push_cast; rfl
    have hS16 : S ≤ 16 := by rw [← hS]; exact Nat.pow_le_pow_right (n := 2) (by decide) hM4
    have hS1 : 1 ≤ S := by rw [← hS]; exact Nat.pow_pos (by decide)
    have hst := fun W : World => impl_states_c W M hM1 hM4 A k cap
    rw [hSI] at hst
    have hmk := fun W : World => run_mkPick S (by omega) .i64 .i64 W
    have HSS := Lib.hid hS
    have HNN := Lib.hid hnn
    have HSN := Lib.hid hsn
    have HST := Lib.hid hst
    have HSO := Lib.hid hs
    have hch : chN k n2 = n + M := by
      unfold chN
      rw [← hnn]
      have h0 : 0 < k := hk1
      rw [show (n + M) * k + (k - 1) = (k - 1) + (n + M) * k by omega, Nat.add_mul_div_right _ _ h0, Nat.div_eq_of_lt (by omega)]
      omega
    have HCH := Lib.hid hch
    clear hs hsn hnn hsv hS hSI hst hA hch
    refine calls_marks Try.func22 rfl ?_
    simp only [Try.ntmps22, List.size_toArray, List.length_cons, List.length_nil, Nat.reduceAdd, Nat.reduceSub, Array.replicate_succ, Array.replicate_zero, List.push_toArray, List.append_toArray, List.nil_append, List.cons_append]
    go_wp2_with (rw [← e1]; clear e1)
    refine HV.out.mono ?_
    rintro e w2 ⟨rfl, b2⟩
    have B2 : Below w.heap.size w w2 := b1.trans (b2.mono b1.size)
    have z2 := b2.size
    have O2 := HO.out.below b2 HO.out.lt
    clear C0 C1
    obtain ⟨⟨C0, C1⟩, -⟩ := O2.two
    obtain ⟨w3, e3⟩ : ∃ q : World, q = w2.alloc (.cells #[.int .i64 (n : Int)] 3) := ⟨_, rfl⟩
    have X3 : Boxed w3 w2.heap.size 3 (.int .i64 (n : Int)) := by rw [e3]; exact Boxed.new _ _ _
    have B3 : Below w.heap.size w w3 := by rw [e3]; exact B2.alloc (by omega) _
    have z3 : w3.heap.size = w2.heap.size + 1 := by rw [e3]; simp
    have O3 : Obj w3 w.heap.size 29 #[.int .i64 (M : Int), .slice A k cap] := by rw [e3]; exact O2.alloc _
    have D0 : w3.cell? ⟨w.heap.size, 0, none⟩ = some (.int .i64 (M : Int)) := O3.cell 0
    have D1 : w3.cell? ⟨w.heap.size, 1, none⟩ = some (.slice A k cap) := O3.cell 1
    clear O2
    go_wp2_with (rw [← e3]; clear e3)
    refine (HST.out w3).mono ?_
    rintro e w4 ⟨rfl, b4⟩
    have z4 := b4.size
    have B4 : Below w.heap.size w w4 := B3.trans (b4.mono B3.size)
    obtain ⟨w5, e5⟩ : ∃ q : World, q = (w4.alloc (.cells (madeCells #[Value.bool false, .float .f32 0, .int .i64 0] (S * 3)) 110)).alloc (.cells #[.slice (some ⟨w4.heap.size, 0, none⟩) S S] 108) := ⟨_, rfl⟩
    have P5 : PRow w5 w4.heap.size S (newT S) (List.replicate S 0) := by rw [e5]; exact (PRow.new w4 hS1).alloc _
    have X5 : Boxed w5 (w4.heap.size + 1) 108 (psV S w4.heap.size) := by
      have := Boxed.new (w4.alloc (.cells (madeCells #[Value.bool false, .float .f32 0, .int .i64 0] (S * 3)) 110)) 108 (psV S w4.heap.size)
      rw [World.size_alloc] at this
      rw [e5]
      exact this
    have b5 : Below w4.heap.size w4 w5 := by rw [e5]; exact ((Below.refl _ _).alloc (Nat.le_refl _) _).alloc (by simp) _
    have z5 : w5.heap.size = w4.heap.size + 1 + 1 := by rw [e5]; simp
    have E0 := (P5.cells (s := 0) hS1).1
    rw [Nat.zero_mul, newT_h] at E0
    have E1 := P5.frz 0
    have E2 := X5.cell
    unfold psV at E2
    obtain ⟨w6, e6⟩ : ∃ q : World, q = w5.setCell ⟨w4.heap.size, 0, none⟩ (.bool true) := ⟨_, rfl⟩
    have P6 := P5.start hS1
    rw [← e6] at P6
    have X6 : Boxed w6 (w4.heap.size + 1) 108 (psV S w4.heap.size) := by rw [e6]; exact X5.other (by omega) _
    have z6 : w6.heap.size = w5.heap.size := by rw [e6]; simp
    have b6 : Below w4.heap.size w4 w6 := by rw [e6]; exact b5.setCell (by simp) _
    obtain ⟨w7, e7⟩ : ∃ q : World, q = (w6.alloc (.cells #[] 108)).alloc (.cells #[.slice (some ⟨w4.heap.size + 1 + 1, 0, none⟩) 0 0] 111) := ⟨_, rfl⟩
    have b7 : Below w4.heap.size w4 w7 := by rw [e7]; exact (b6.alloc (by omega) _).alloc (by simp; omega) _
    have B7 : Below w.heap.size w w7 := B4.trans (b7.mono B4.size)
    have hzw : w.heap.size + 1 + 1 ≤ w4.heap.size := by have := b1.size; omega
    have P7 : PRow w7 w4.heap.size S (startT S) (List.replicate S 0) := by rw [e7]; exact (P6.alloc _).alloc _
    have X7 : Boxed w7 (w4.heap.size + 1) 108 (psV S w4.heap.size) := by rw [e7]; exact (X6.alloc _).alloc _
    have z7 : w7.heap.size = w4.heap.size + 1 + 1 + 1 + 1 := by rw [e7]; simp; omega
    have Y7 : Bufd w7 (w4.heap.size + 1 + 1) (w4.heap.size + 1 + 1 + 1) 111 108 [] := by
      have h1 := own_empty w6 (w4.heap.size + 1 + 1) 108 (by omega)
      rw [z6, z5] at h1
      have h2 := Boxed.new (w6.alloc (.cells #[] 108)) 111 (.slice (some ⟨w4.heap.size + 1 + 1, 0, none⟩) 0 0)
      rw [World.size_alloc, z6, z5] at h2
      rw [e7]
      exact ⟨_, h2, World.ownsRow.alloc h1 _, _, _, rfl⟩
    have O4 := O3.below b4 (by omega)
    have O7 := O4.below b7 (by omega)
    have F1 : w7.cell? ⟨w.heap.size, 1, none⟩ = some (.slice A k cap) := O7.cell 1
    have X37 := (show Obj w3 w2.heap.size 3 #[.int .i64 (n : Int)] from X3).below b4 (by omega)
    have X77 : Boxed w7 w2.heap.size 3 (.int .i64 (n : Int)) := X37.below b7 (by omega)
    clear X3 X5 X6 P5 P6 O3 O4 X37 D0 D1
    go_wp2_with (first | (rw [← e5]; clear e5) | (rw [← e6]; clear e6) | (rw [← e7]; clear e7) | (go_at_call 43; refine ((callsIn_wide (n := 3)).1 (Chunk_float32_in 3 (some ⟨g2, 0, none⟩) n2 cap2 k hk1 _)).mono ?_; rintro e w8 ⟨rfl, rfl⟩))
    have hz7 : w7.heap.size = w7.heap.size := rfl
    have hbx1 := Boxed.new w7 25 (.slice (some ⟨g2, 0, none⟩) n2 cap2)
    have hbx2 := Boxed.new (w7.alloc (.cells #[.slice (some ⟨g2, 0, none⟩) n2 cap2] 25)) 3 (.int .i64 (k : Int))
    rw [World.size_alloc] at hbx2
    rw [z7] at hbx1 hbx2
    obtain ⟨w8, e8⟩ : ∃ q : World, q = (w7.alloc (.cells #[.slice (some ⟨g2, 0, none⟩) n2 cap2] 25)).alloc (.cells #[.int .i64 (k : Int)] 3) := ⟨_, rfl⟩
    have z8 : w8.heap.size = w7.heap.size + 2 := by rw [e8]; simp
    have X81 : Boxed w8 (w4.heap.size + 1 + 1 + 1 + 1) 25 (.slice (some ⟨g2, 0, none⟩) n2 cap2) := by rw [e8]; exact hbx1.alloc _
    have X82 : Boxed w8 (w4.heap.size + 1 + 1 + 1 + 1 + 1) 3 (.int .i64 (k : Int)) := by rw [e8]; exact hbx2
    have I8 : BWI w (w4.heap.size + 1 + 1) S (seqT M ms xs n []) 0 #[.int .i64 (M : Int), .slice A k cap] w2.heap.size (w4.heap.size + 1) (w4.heap.size + 1 + 1 + 1) (w4.heap.size + 1 + 1 + 1 + 1) (w4.heap.size + 1 + 1 + 1 + 1 + 1) (.int .i64 (n : Int)) (.slice (some ⟨g2, 0, none⟩) n2 cap2) (.int .i64 (k : Int)) w8 := by
      refine ⟨by rw [e8]; exact (B7.alloc B7.size _).alloc (by have := B7.size; simp; omega) _, by rw [e8]; exact (O7.alloc _).alloc _, by rw [e8]; exact (X77.alloc _).alloc _, X81, X82, ⟨w4.heap.size, List.replicate S 0, B4.size, by rw [e8]; exact (X7.alloc _).alloc _, ?_⟩, ⟨[], rfl, ?_, fun i hi => absurd hi (Nat.not_lt_zero _)⟩⟩
      · show PRow w8 _ S (startT (2 ^ M)) _
        rw [HSS.out, e8]
        exact (P7.alloc _).alloc _
      · rw [e8]
        obtain ⟨v, k1, k2, k3⟩ := Y7
        exact ⟨v, (k1.alloc _).alloc _, World.ownsRow.alloc (World.ownsRow.alloc k2 _) _, k3⟩
    rw [← e8]
    have hP7 : w2.heap.size < w4.heap.size := by omega
    have hw1z := b1.size
    clear e8 hbx1 hbx2 X7 Y7 O7 X77 P7 F1 hz7 X81 X82 C0 C1 E0 E1 E2
    refine wp_chunk_float32' 42 11 (w4.heap.size + 1 + 1 + 1 + 1) (w4.heap.size + 1 + 1 + 1 + 1 + 1) g2 0 n2 cap2 k (some ⟨g2, 0, none⟩) rfl rfl (.inl rfl) hk1 (by omega) hn2 hcap hcapm (fun h => by cases h) (by omega) (by omega) I8.x1.cell I8.x2.cell
      (fun pre W => BWI w (w4.heap.size + 1 + 1) S (seqT M ms xs n (pre.map (·.1))) pre.length #[.int .i64 (M : Int), .slice A k cap] w2.heap.size (w4.heap.size + 1) (w4.heap.size + 1 + 1 + 1) (w4.heap.size + 1 + 1 + 1 + 1) (w4.heap.size + 1 + 1 + 1 + 1 + 1) (.int .i64 (n : Int)) (.slice (some ⟨g2, 0, none⟩) n2 cap2) (.int .i64 (k : Int)) W)
      (bwi_own w (w4.heap.size + 1 + 1) S _ _ _ _ _ _ _ _ _ _ _ _ (by omega)) I8 ?assign ?body ?done
    case assign =>
      intro l x W K hK
      gi_wp2
      exact hK
    case body =>
      intro l pre x W hI hlp
      obtain ⟨wA, rfl⟩ : ∃ wA : World, wA = W := ⟨_, rfl⟩
      obtain ⟨hbw, hOc, hx7, hx1, hx2, ⟨b9, ns9, hb9, hX9, hP9⟩, ⟨bs, hbl, hbf, hbr⟩⟩ := hI
      obtain ⟨t, et⟩ : ∃ t, pre.length = t := ⟨_, rfl⟩
      obtain ⟨lp, elp⟩ : ∃ lp, pre.map (·.1) = lp := ⟨_, rfl⟩
      obtain ⟨xi, exi⟩ : ∃ xi, x.1 = xi := ⟨_, rfl⟩
      have hlp2 : lp.length = t := by rw [← elp, List.length_map, et]
      have hxN : xi < n + M := by have h2 : x.1 < chN k n2 := x.2; have h3 : chN k n2 = n + M := HCH.out; omega
      rw [elp, et] at hP9
      rw [elp, et] at hbr
      rw [et] at hbl
      rw [et, HCH.out] at hlp
      obtain ⟨T0, eT0⟩ : ∃ T, seqT M ms xs n lp t = T := ⟨_, rfl⟩
      obtain ⟨pt, ept⟩ : ∃ pt, partL k xs xi = pt := ⟨_, rfl⟩
      obtain ⟨la, ela⟩ : ∃ la, decide (n ≤ t) = la := ⟨_, rfl⟩
      have hnx : seqT M ms xs n (lp ++ [xi]) (t + 1) = rowT M ms pt la T0 S := by rw [← hlp2, seqT_next, hlp2, hl, ept, ela, eT0, HSS.out]
      rw [eT0] at hP9
      have hlo1 : k * xi + k ≤ n2 := by
        rw [← HNN.out, Nat.mul_comm k xi, ← Nat.succ_mul]
        exact Nat.mul_le_mul_right k hxN
      obtain ⟨lo, elo⟩ : ∃ lo, k * xi = lo := ⟨_, rfl⟩
      rw [elo] at hlo1
      have hcv : chV g2 0 k n2 x.1 = .slice (some ⟨g2, lo, none⟩) k k := by
        unfold chV
        rw [exi, elo, Nat.zero_add, show min k (n2 - lo) = k by omega]
      have hpt : pt = (xs.drop lo).take k := by rw [← ept, ← elo, Nat.mul_comm]; rfl
      have hptl : pt.length = k := by rw [hpt]; simp; omega
      rw [hcv]
      simp only [List.setIfInBounds_toArray, List.set_cons_succ, List.set_cons_zero]
      have HNX := Lib.hid hnx
      have HPT := Lib.hid hpt
      have HLA := Lib.hid ela
      have HT := Lib.hid et
      have HLP := Lib.hid elp
      have HXI := Lib.hid exi
      have HT0 := Lib.hid eT0
      have HLP2 := Lib.hid hlp2
      have HBL := Lib.hid hbl
      have HBR := Lib.hid hbr
      have HBF := Lib.hid hbf
      have HP9 := Lib.hid hP9
      have HOC := Lib.hid hOc
      have HX9 := Lib.hid hX9
      have HX7 := Lib.hid hx7
      have HX1 := Lib.hid hx1
      have HX2 := Lib.hid hx2
      obtain ⟨⟨G0, G1⟩, -⟩ := hOc.two
      have hc9 := hX9.cell
      have hzA := hbw.size
      clear I8 hnx hpt ela et elp exi eT0 ept elo hlp2 hcv hbl hbr hbf hP9 hOc hX9 hx7 hx1 hx2
      unfold psV at hc9
      gi_wp2_with fail
      refine ⟨trivial, (CallsIn.inRound l (callsIn_wide.2 (HST.out wA))).mono ?_⟩
      rintro e wB ⟨rfl, hbB⟩
      obtain ⟨wC, eC⟩ : ∃ q : World, q = wB.alloc (.cells (madeCells #[Value.bool false, .float .f32 0, .int .i64 0] (S * 3)) 110) := ⟨_, rfl⟩
      have hPC : PRow wC wB.heap.size S (newT S) (List.replicate S 0) := by rw [eC]; exact PRow.new wB hS1
      have hbC : Below wA.heap.size wA wC := by rw [eC]; exact hbB.alloc hbB.size _
      have hBA := hbB.size
      have hzC : wC.heap.size = wB.heap.size + 1 := by rw [eC]; simp
      have hc9c := (hbC.cell (p := ⟨w4.heap.size + 1, 0, none⟩) HX9.out.lt).trans hc9
      have HZC := Lib.hid hzC
      have HPC := Lib.hid hPC
      clear hc9 hzC hPC
      gi_wp2_with (rw [← eC]; clear eC)
      gi_loopw [48] (fun i w1 => ∃ (s : Nat) (ns : List Nat), s ≤ S ∧ i = .int .i64 s ∧ PRow w1 wB.heap.size S (rowT M ms pt la T0 s) ns ∧ Below wA.heap.size wA w1) (fun i _ => S - (intOf i).toNat)
      case atStart =>
        refine ⟨0, List.replicate S 0, Nat.zero_le _, rfl, ?_, hbC⟩
        show PRow _ _ _ (newT (2 ^ M)) _
        rw [HSS.out]
        exact HPC.out
      case round =>
        clear hc9c
        obtain ⟨s, ns, hs, rfl, hmid, hbD⟩ := hrel
        obtain ⟨wD, rfl⟩ : ∃ wD : World, wD = wr := ⟨_, rfl⟩
        by_cases hlt2 : s < S
        · obtain ⟨c1, c2, c3⟩ := (HP9.out.below hbD HP9.out.lt).cells hlt2
          obtain ⟨hh, ehh⟩ : ∃ q, T0.h.getD s false = q := ⟨_, rfl⟩
          obtain ⟨g0, eg0⟩ : ∃ q, ns9.getD s 0 = q := ⟨_, rfl⟩
          obtain ⟨f0, ef0⟩ : ∃ q, T0.f.getD s 0 = q := ⟨_, rfl⟩
          have hg0 : T0.g.getD s none = fl .f32 g0 := by
            have h1 := HP9.out.len
            have h2 : s < ns9.length := by omega
            rw [← HP9.out.2.2, ← eg0]
            simp [List.getD, h2]
          rw [ehh] at c1
          rw [eg0] at c2
          rw [ef0] at c3
          have HG := Lib.hid ehh
          have HG0 := Lib.hid hg0
          have HM := Lib.hid hmid
          obtain ⟨wE, eE⟩ : ∃ q : World, q = wD.alloc (.cells #[.bool hh, .float .f32 g0, .int .i64 f0] 110) := ⟨_, rfl⟩
          have hOE : Obj wE wD.heap.size 110 #[.bool hh, .float .f32 g0, .int .i64 f0] := by rw [eE]; exact Obj.new _ _ _
          have hzD := hbD.size
          have hbE : Below wA.heap.size wA wE := by rw [eE]; exact hbD.alloc hzD _
          have hmE : PRow wE wB.heap.size S (rowT M ms pt la T0 s) ns := by rw [eE]; exact hmid.alloc _
          have hBD := hmid.lt
          have HOE := Lib.hid hOE
          have HME := Lib.hid hmE
          clear hmid ehh eg0 ef0 hg0 hOE hmE
          gi_wp2_with (rw [← eE]; clear eE)
          gi_loopw [53] (fun jv w1 => ∃ (j : Nat) (ns2 : List Nat), j ≤ 2 ∧ jv = .int .i64 j ∧ PRow w1 wB.heap.size S (bitT M ms pt la T0 s j) ns2 ∧ Below wA.heap.size wA w1 ∧ Obj w1 wD.heap.size 110 #[.bool hh, .float .f32 g0, .int .i64 f0]) (fun j _ => 2 - (intOf j).toNat)
          case atStart => exact ⟨0, ns, Nat.zero_le _, rfl, HME.out, hbE, HOE.out⟩
          case round =>
            clear c1 c2 c3
            obtain ⟨j, ns2, hj, rfl, hmid2, hbF, hOF⟩ := hrel
            obtain ⟨wF, rfl⟩ : ∃ wF : World, wF = wr := ⟨_, rfl⟩
            by_cases hj2 : j < 2
            · obtain ⟨q, hjq⟩ : ∃ q : Bool, (j : Int) = bitI q := by
                rcases (show j = 0 ∨ j = 1 by omega) with rfl | rfl
                · exact ⟨false, rfl⟩
                · exact ⟨true, rfl⟩
              have hje : ((j : Int) == 1) = q := by rw [hjq]; cases q <;> rfl
              have HJ := Lib.hid hjq
              have HM2 := Lib.hid hmid2
              have HOF := Lib.hid hOF
              have p0 : wF.cell? ⟨wD.heap.size, 0, none⟩ = some (.bool hh) := hOF.cell 0
              have p1 : wF.cell? ⟨wD.heap.size, 1, none⟩ = some (.float .f32 g0) := hOF.cell 1
              clear hjq hmid2 hOF
              cases hh
              · gi_wp2
                all_goals try (exfalso; have h9 := ‹some undef = some (Value.bool _)›; cases h9; done)
                go_roundw
                case rel => exact ⟨j + 1, ns2, by omega, by go_num, by rw [bitT_step q HJ.out, edge_not HG.out]; exact HM2.out, hbF, HOF.out⟩
                case measure => simp [intOf]; omega
              · have d7 := (hbF.cell (p := ⟨w2.heap.size, 0, none⟩) HX7.out.lt).trans HX7.out.cell
                obtain ⟨v5, k1, k2, g5, cap5, rfl⟩ := HBF.out
                have d10 := (hbF.cell (p := ⟨w4.heap.size + 1 + 1 + 1, 0, none⟩) k1.lt).trans k1.cell
                rw [List.length_map, HBL.out] at d10
                clear k1 k2
                have hnd := HLA.out
                have hnd : decide ((n : Int) ≤ (t : Int)) = la := by rw [← hnd]; exact decide_eq_decide.2 (by omega)
                by_cases hsk : (q && la) = true
                · obtain ⟨rfl, rfl⟩ : q = true ∧ la = true := by simpa using hsk
                  have hnt : n ≤ t := by simpa using HLA.out
                  clear hsk
                  gi_wp2
                  go_roundw
                  case rel => exact ⟨j + 1, ns2, by omega, by go_num, by rw [bitT_step true HJ.out, edge_last]; exact HM2.out, hbF, HOF.out⟩
                  case measure => simp [intOf]; omega
                · have hql : (q && la) = false := by simpa using hsk
                  obtain ⟨to, eto⟩ : ∃ to, toS M s q = to := ⟨_, rfl⟩
                  have hto : to < S := by rw [← eto, ← HSS.out]; exact toS_lt q
                  have htv : (2 * (s : Int) + (j : Int)) % 2 ^ M = (to : Int) := by rw [HJ.out, ← eto]; exact toS_eq M s q
                  have hsx : sentL ms (2 * (s : Int) + (j : Int)) = sentL ms (2 * (s : Int) + bitI q) := by rw [HJ.out]
                  have hedge : edgeT M ms pt la T0 s q (bitT M ms pt la T0 s j) = updT (bitT M ms pt la T0 s j) to (edgeX ms pt T0 s q) s := by rw [← eto]; exact edge_yes HG.out hql
                  have hst2 := bitT_step (M := M) (ms := ms) (part := pt) (last := la) (T0 := T0) (s := s) q HJ.out
                  rw [hedge] at hst2
                  have hs15 : s ≤ 15 := by omega
                  obtain ⟨T1, eT1⟩ : ∃ T, bitT M ms pt la T0 s j = T := ⟨_, rfl⟩
                  rw [eT1] at hst2
                  have hmF := HM2.out
                  rw [eT1] at hmF
                  have HST2 := Lib.hid hst2
                  have HTV := Lib.hid htv
                  have HSX := Lib.hid hsx
                  have hbwF : Below w.heap.size w wF := hbw.trans (hbF.mono hzA)
                  have G0F := (hbF.cell (p := ⟨w.heap.size, 0, none⟩) HOC.out.lt).trans G0
                  have G1F := (hbF.cell (p := ⟨w.heap.size, 1, none⟩) HOC.out.lt).trans G1
                  have hyF : Sl wF w.heap.size (some ⟨g2, lo, none⟩) (pt.map (Value.float .f32)) := by
                    have := sl_part (HY.out.below hbwF) lo k
                    rw [Nat.zero_add] at this
                    rw [HPT.out, List.map_take, List.map_drop]
                    exact this
                  have HMF := Lib.hid hmF
                  have HYF := Lib.hid hyF
                  have hj1 : j ≤ 1 := by omega
                  have HQL := Lib.hid hql
                  clear htv hsx hedge hst2 eT1 eto hmF hyF hsk hql
                  have hqn : q = true → decide ((n : Int) ≤ (t : Int)) = false := by
                    rintro rfl
                    have := HQL.out
                    rw [Bool.true_and] at this
                    rw [hnd, this]
                  cases q
                  · clear hqn
                    gi_wp2_with fail
                    refine ⟨trivial, (CallsIn.inRound l (callsIn_wide.2 (impl_send_c wF M hM1 hM4 A k cap ms hl hk4 hr ((HX.out.below hbwF).more hbwF.size) (s : Int) (j : Int) (by omega) (by omega) (by omega) (by omega)))).mono ?_⟩
                    rintro e wG ⟨v, rfl, hoG, hbG⟩
                    rw [HTV.out]
                    rw [HSX.out] at hoG
                    obtain ⟨S3, q3, rfl, hp3⟩ := hoG.opn
                    have hp1 := (hbG.cell (p := ⟨wD.heap.size, 1, none⟩) HOF.out.lt).trans p1
                    gi_wp2_with fail
                    refine ⟨trivial, (CallsIn.inRound l (callsIn_wide.2 (impl_gain_c wG g0 wG.heap.size w.heap.size S3 _ q3 (sentL ms (2 * (s : Int) + bitI false)) rfl (by rw [sentL_len]; omega) (sl_of_own hp3) (some ⟨g2, lo, none⟩) k k pt hptl (by rw [sentL_len]; omega) (by omega) (HYF.out.below (hbG.mono hbwF.size))))).mono ?_⟩
                    rintro e wI ⟨x5, rfl, hx5, q5, rfl⟩
                    obtain ⟨wH, eH⟩ : ∃ W : World, W = wG.drewN q5 := ⟨_, rfl⟩
                    rw [← eH]
                    have hbH : Below wF.heap.size wF wH := by rw [eH]; exact below_drewN hbG q5
                    have hmH := HMF.out.below hbH HMF.out.lt
                    have hOH := HOF.out.below hbH HOF.out.lt
                    have hbAH : Below wA.heap.size wA wH := hbF.trans (hbH.mono hbF.size)
                    have hxe : fl .f32 x5 = edgeX ms pt T0 s false := by
                      rw [hx5, sentL_len]
                      unfold edgeX
                      rw [HG0.out]
                    have HXE := Lib.hid hxe
                    have HMH := Lib.hid hmH
                    have HOH := Lib.hid hOH
                    obtain ⟨k1, k2, k3⟩ := hmH.cells hto
                    have z1 := hmH.frz (to * 3)
                    have z2 := hmH.frz (to * 3 + 1)
                    have z3 := hmH.frz (to * 3 + 1 + 1)
                    have hgg : T1.g.getD to none = fl .f32 (ns2.getD to 0) := by
                      have h1 := hmH.len
                      have h2 : to < ns2.length := by omega
                      rw [← hmH.2.2]
                      simp [List.getD, h2]
                    obtain ⟨hh, ehh⟩ : ∃ q, T1.h.getD to false = q := ⟨_, rfl⟩
                    obtain ⟨y, ey⟩ : ∃ q, ns2.getD to 0 = q := ⟨_, rfl⟩
                    obtain ⟨fr, efr⟩ : ∃ q, T1.f.getD to 0 = q := ⟨_, rfl⟩
                    rw [ehh] at k1
                    rw [ey] at k2 hgg
                    rw [efr] at k3
                    have hbet : betT T1 to (edgeX ms pt T0 s false) = (!hh || (FloatKind.f32.format.order x5 y == some Ordering.gt)) := by
                      unfold betT
                      rw [ehh, hgg, gt_fl, hxe]
                    have HB := Lib.hid hbet
                    have hBH : wA.heap.size ≤ wB.heap.size := hBA
                    have hDB : wD.heap.size ≠ wB.heap.size := by omega
                    clear eH hgg ehh ey efr hbet hxe hx5 hbH hbG hoG hp3 hmH hOH hp1 p0 p1
                    cases hh
                    · gi_wp2
                      go_roundw
                      case rel =>
                        refine ⟨j + 1, ns2.set to x5, by omega, by go_num, ?_, ((hbAH.setCell hBH _).setCell hBH _).setCell hBH _, ((HOH.out.far hDB _ _).far hDB _ _).far hDB _ _⟩
                        rw [HST2.out, upd_yes (by rw [HB.out]; rfl)]
                        exact HMH.out.put hto x5 _ HXE.out s (by omega) (by omega)
                      case measure => simp [intOf]; omega
                    · by_cases hord : (FloatKind.f32.format.order x5 y == some Ordering.gt) = true
                      · gi_wp2
                        go_roundw
                        case rel =>
                          refine ⟨j + 1, ns2.set to x5, by omega, by go_num, ?_, ((hbAH.setCell hBH _).setCell hBH _).setCell hBH _, ((HOH.out.far hDB _ _).far hDB _ _).far hDB _ _⟩
                          rw [HST2.out, upd_yes (by rw [HB.out, hord]; rfl)]
                          exact HMH.out.put hto x5 _ HXE.out s (by omega) (by omega)
                        case measure => simp [intOf]; omega
                      · have hord : (FloatKind.f32.format.order x5 y == some Ordering.gt) = false := by simpa using hord
                        gi_wp2
                        go_roundw
                        case rel =>
                          refine ⟨j + 1, ns2, by omega, by go_num, ?_, hbAH, HOH.out⟩
                          rw [HST2.out, upd_no (by rw [HB.out, hord]; rfl)]
                          exact HMH.out
                        case measure => simp [intOf]; omega
                  · have hntd := hqn rfl
                    have hnt : ¬ n ≤ t := by simpa using hntd
                    have hla2 : la = false := by rw [← hnd]; exact hntd
                    have HLA2 := Lib.hid hla2
                    clear hqn hnd hla2
                    gi_wp2_with fail
                    refine ⟨trivial, (CallsIn.inRound l (callsIn_wide.2 (impl_send_c wF M hM1 hM4 A k cap ms hl hk4 hr ((HX.out.below hbwF).more hbwF.size) (s : Int) (j : Int) (by omega) (by omega) (by omega) (by omega)))).mono ?_⟩
                    rintro e wG ⟨v, rfl, hoG, hbG⟩
                    rw [HTV.out]
                    rw [HSX.out] at hoG
                    obtain ⟨S3, q3, rfl, hp3⟩ := hoG.opn
                    have hp1 := (hbG.cell (p := ⟨wD.heap.size, 1, none⟩) HOF.out.lt).trans p1
                    gi_wp2_with fail
                    refine ⟨trivial, (CallsIn.inRound l (callsIn_wide.2 (impl_gain_c wG g0 wG.heap.size w.heap.size S3 _ q3 (sentL ms (2 * (s : Int) + bitI true)) rfl (by rw [sentL_len]; omega) (sl_of_own hp3) (some ⟨g2, lo, none⟩) k k pt hptl (by rw [sentL_len]; omega) (by omega) (HYF.out.below (hbG.mono hbwF.size))))).mono ?_⟩
                    rintro e wI ⟨x5, rfl, hx5, q5, rfl⟩
                    obtain ⟨wH, eH⟩ : ∃ W : World, W = wG.drewN q5 := ⟨_, rfl⟩
                    rw [← eH]
                    have hbH : Below wF.heap.size wF wH := by rw [eH]; exact below_drewN hbG q5
                    have hmH := HMF.out.below hbH HMF.out.lt
                    have hOH := HOF.out.below hbH HOF.out.lt
                    have hbAH : Below wA.heap.size wA wH := hbF.trans (hbH.mono hbF.size)
                    have hxe : fl .f32 x5 = edgeX ms pt T0 s true := by
                      rw [hx5, sentL_len]
                      unfold edgeX
                      rw [HG0.out]
                    have HXE := Lib.hid hxe
                    have HMH := Lib.hid hmH
                    have HOH := Lib.hid hOH
                    obtain ⟨k1, k2, k3⟩ := hmH.cells hto
                    have z1 := hmH.frz (to * 3)
                    have z2 := hmH.frz (to * 3 + 1)
                    have z3 := hmH.frz (to * 3 + 1 + 1)
                    have hgg : T1.g.getD to none = fl .f32 (ns2.getD to 0) := by
                      have h1 := hmH.len
                      have h2 : to < ns2.length := by omega
                      rw [← hmH.2.2]
                      simp [List.getD, h2]
                    obtain ⟨hh, ehh⟩ : ∃ q, T1.h.getD to false = q := ⟨_, rfl⟩
                    obtain ⟨y, ey⟩ : ∃ q, ns2.getD to 0 = q := ⟨_, rfl⟩
                    obtain ⟨fr, efr⟩ : ∃ q, T1.f.getD to 0 = q := ⟨_, rfl⟩
                    rw [ehh] at k1
                    rw [ey] at k2 hgg
                    rw [efr] at k3
                    have hbet : betT T1 to (edgeX ms pt T0 s true) = (!hh || (FloatKind.f32.format.order x5 y == some Ordering.gt)) := by
                      unfold betT
                      rw [ehh, hgg, gt_fl, hxe]
                    have HB := Lib.hid hbet
                    have hBH : wA.heap.size ≤ wB.heap.size := hBA
                    have hDB : wD.heap.size ≠ wB.heap.size := by omega
                    clear eH hgg ehh ey efr hbet hxe hx5 hbH hbG hoG hp3 hmH hOH hp1 p0 p1
                    cases hh
                    · gi_wp2
                      go_roundw
                      case rel =>
                        refine ⟨j + 1, ns2.set to x5, by omega, by go_num, ?_, ((hbAH.setCell hBH _).setCell hBH _).setCell hBH _, ((HOH.out.far hDB _ _).far hDB _ _).far hDB _ _⟩
                        rw [HST2.out, upd_yes (by rw [HB.out]; rfl)]
                        exact HMH.out.put hto x5 _ HXE.out s (by omega) (by omega)
                      case measure => simp [intOf]; omega
                    · by_cases hord : (FloatKind.f32.format.order x5 y == some Ordering.gt) = true
                      · gi_wp2
                        go_roundw
                        case rel =>
                          refine ⟨j + 1, ns2.set to x5, by omega, by go_num, ?_, ((hbAH.setCell hBH _).setCell hBH _).setCell hBH _, ((HOH.out.far hDB _ _).far hDB _ _).far hDB _ _⟩
                          rw [HST2.out, upd_yes (by rw [HB.out, hord]; rfl)]
                          exact HMH.out.put hto x5 _ HXE.out s (by omega) (by omega)
                        case measure => simp [intOf]; omega
                      · have hord : (FloatKind.f32.format.order x5 y == some Ordering.gt) = false := by simpa using hord
                        gi_wp2
                        go_roundw
                        case rel =>
                          refine ⟨j + 1, ns2, by omega, by go_num, ?_, hbAH, HOH.out⟩
                          rw [HST2.out, upd_no (by rw [HB.out, hord]; rfl)]
                          exact HMH.out
                        case measure => simp [intOf]; omega
            · have : j = 2 := by omega
              subst this
              gi_wp2
              go_roundw
              case rel => exact ⟨s + 1, ns2, hlt2, by go_num, hmid2, hbF⟩
              case measure => simp [intOf]; omega
        · obtain rfl : s = S := by omega
          obtain ⟨v5, k1, k2, g5, cap5, rfl⟩ := HBF.out
          have hbl5 : (bs.map (psV s)).length = t := by rw [List.length_map, HBL.out]
          rw [hbl5] at k1 k2
          have k1 := boxed_below k1 hbD k1.lt
          have k2 := own_below k2 hbD (Nat.le_refl _)
          have hzD := hbD.size
          have hP9lt := HX9.out.lt
          have hzD2 : w4.heap.size + 1 + 1 ≤ wD.heap.size := Nat.le_trans hP9lt hzD
          have ht40 : t + 1 ≤ 1099511627776 := by omega
          have d10 := k1.cell
          have HMD := Lib.hid hmid
          have X9D := boxed_below HX9.out hbD HX9.out.lt
          have HX9D := Lib.hid X9D
          clear hmid hbl5 G0 G1 X9D
          gi_wp2_with (gi_at_builtin; go_must (refine appBxIn Try.underlying111 infoPickS rfl (by decide) rfl (.tmp 104) (.tmp 106) rfl wD (w4.heap.size + 1 + 1) (w4.heap.size + 1 + 1 + 1) 111 (.slice (some ⟨g5, 0, none⟩) t cap5) t _ rfl k1 (by decide) k2 hzD2 (by omega) _ (by simp) _ _ 1 _ [psV s wB.heap.size] rfl rfl (by decide) (cells1 _ _ _) (by simp [psV, Value.oneCell']) ht40 ?_); intro v6 w6 n6 N6 A6; have b6o := A6.old.cell; have b6f := A6.old.frozen; have hA6 := A6; obtain ⟨g6, cap6, rfl⟩ := A6.form; have x9 := boxed_below HX9D.out A6.bel (by omega); have x9c := x9.cell; have x9f := x9.frozen)
          have hfin := bwi_step (Q' := seqT M ms xs n (lp ++ [xi])) hbw HOC.out HX7.out HX1.out HX2.out HX9.out HBL.out HBR.out hbD (by rw [HNX.out]; exact HMD.out) (by omega) (by omega) k1 k2 hA6 (by omega) (by omega) (by omega) (by omega) (by omega) (by omega) (by omega) (by omega) (by omega) (by omega) (by omega) (fun j hj => seqT_app j (by rw [HLP2.out]; exact hj))
          have hK := ((keeps_below hbD).trans hA6.oth).trans (KeepsOthers.setCell _ ⟨w4.heap.size + 1, 0, none⟩ (psV s wB.heap.size))
          refine ⟨hK.from _, ⟨hfin.x1.trans HX1.out.symm, hfin.x2.trans HX2.out.symm⟩, ?_⟩
          have e1 : (pre ++ [x]).map (·.1) = lp ++ [xi] := by rw [List.map_append, HLP.out, List.map_cons, List.map_nil, HXI.out]
          have e2 : (pre ++ [x]).length = t + 1 := by rw [List.length_append, HT.out, List.length_singleton]
          show BWI _ _ _ (seqT M ms xs n ((pre ++ [x]).map (·.1))) (pre ++ [x]).length _ _ _ _ _ _ _ _ _ _
          rw [e1, e2]
          exact hfin
    case done =>
      rintro Dd ys W hDd hys hI hK
      have hys := hys.trans (congrArg List.range HCH.out)
      have hyl : ys.length = n + M := by
        have := congrArg List.length hys
        rw [List.length_map, List.length_range] at this
        exact this
      rw [hys, hyl] at hI
      obtain ⟨hbw, hOc, hx7, hx1, hx2, ⟨b9, ns9, hb9, hX9, hP9⟩, ⟨bs, hbl, hbf, hbr⟩⟩ := hI
      rw [seqT_range (n + M) (Nat.le_refl _)] at hP9
      have hlen9 := hP9.len
      have hc := hP9.cells (s := 0) (by omega)
      rw [Nat.zero_mul, Nat.zero_add] at hc
      obtain ⟨-, c1, -⟩ := hc
      have hgg : wayGain M ms xs n = fl .f32 (ns9.getD 0 0) := by
        unfold wayGain
        rw [← hP9.2.2]
        simp [List.getD, show 0 < ns9.length by omega]
      obtain ⟨g0, eg0⟩ : ∃ q, ns9.getD 0 0 = q := ⟨_, rfl⟩
      rw [eg0] at c1 hgg
      have d9 := hX9.cell
      unfold psV at d9
      have hfin := impl_IsFinite_c W g0
      rw [← hgg] at hfin
      have hS0 : (0 : Int) < (S : Int) := by omega
      have HSO2 := HSO.out
      have hbo : bestOk (M : Int) ms xs = finB (wayGain M ms xs n) := by
        unfold bestOk
        rw [HSO2, HSN.out, Bool.true_and, Int.toNat_natCast, Int.toNat_natCast]
      have hbl2 : bestOk (M : Int) ms xs = true → bestL (M : Int) ms xs = wayBits M ms xs n ∧ bestG (M : Int) ms xs = wayGain M ms xs n := fun h => by
        unfold bestL bestG
        rw [h, if_pos rfl, if_pos rfl, HSN.out, Int.toNat_natCast, Int.toNat_natCast]
        exact ⟨rfl, rfl⟩
      have HBL2 := Lib.hid hbl2
      have HGG := Lib.hid hgg
      have HBR := Lib.hid hbr
      have HBF := Lib.hid hbf
      have HBLN := Lib.hid hbl
      have HX7 := Lib.hid hx7
      clear hx1 hx2 hOc hgg eg0 HSO2 hbl2 hys hyl hbr hbf hbl hx7 hlen9 I8
      cases hfb : finB (wayGain M ms xs n)
      · rw [hfb] at hfin hbo
        have HF := Lib.hid hfin
        have HBO := Lib.hid hbo
        clear hfin hbo hfb
        go_wp2_with fail
        refine HF.out.mono ?_
        rintro e w9 ⟨rfl, q9, rfl⟩
        go_wp2
        have hK2 : (W.drewN q9).heap[Dd]? = some (.deferred (some [])) := hK
        refine marks_ret1 rfl hK2 (results_tmp3 rfl _ _ _) ?_
        exact best_fail HBO.out ((below_drewN hbw q9).trans (belowK_b (w := w) (Nat.le_refl _) _ Dd _ _ (by omega) hK2 rfl rfl))
      · rw [hfb] at hfin hbo
        have HF := Lib.hid hfin
        have HBO := Lib.hid hbo
        have hmn := fun W : World => run_mk (P := Try.prog) Try.underlying41 infoBool rfl (by decide) n (by omega) .i64 .i64 W
        clear hfin hbo hfb
        go_wp2_with fail
        refine HF.out.mono ?_
        rintro e w9 ⟨rfl, q9, rfl⟩
        obtain ⟨wV, eV⟩ : ∃ q : World, q = W.drewN q9 := ⟨_, rfl⟩
        rw [← eV]
        have hbV : Below w.heap.size w wV := by rw [eV]; exact below_drewN hbw q9
        have hKV : wV.heap[Dd]? = some (.deferred (some [])) := by rw [eV]; exact hK
        have hX7V : Boxed wV w2.heap.size 3 (.int .i64 (n : Int)) := by rw [eV]; exact HX7.out
        have hPV : PRow wV b9 S (tabT M ms xs n (n + M)) ns9 := by rw [eV]; exact hP9
        have hX9V : Boxed wV (w4.heap.size + 1) 108 (psV S b9) := by rw [eV]; exact hX9
        have hBFV : Bufd wV (w4.heap.size + 1 + 1) (w4.heap.size + 1 + 1 + 1) 111 108 (bs.map (psV S)) := by rw [eV]; exact HBF.out
        have hBRV : ∀ i, i < n + M → w.heap.size ≤ bs.getD i 0 ∧ ∃ ns, PRow wV (bs.getD i 0) S (seqT M ms xs n (List.range (n + M)) (i + 1)) ns := by rw [eV]; exact HBR.out
        clear eV hP9 hX9 c1 d9 hK hbw
        obtain ⟨wL, eL⟩ : ∃ q : World, q = wV.alloc (.cells (zeroRow (.bool false) n) 4) := ⟨_, rfl⟩
        have bL : Below wV.heap.size wV wL := by rw [eL]; exact (Below.refl _ _).alloc (Nat.le_refl _) _
        have hRL : Row wL wV.heap.size 4 (List.replicate n (.bool false)) := by rw [eL]; exact Row.new _ _ _ _
        have d7 := hX7V.cell
        obtain ⟨v5, k1, k2, g5, cap5, rfl⟩ := hBFV
        have hbl5 : (bs.map (psV S)).length = n + M := by rw [List.length_map, HBLN.out]
        rw [hbl5] at k1 k2
        have d10 := (boxed_below k1 bL k1.lt).cell
        have hzV := hbV.size
        have HRL := Lib.hid hRL
        have HK1 := Lib.hid k1
        have HK2 := Lib.hid k2
        have HBRV := Lib.hid hBRV
        have HX7V := Lib.hid hX7V
        have HX9V := Lib.hid hX9V
        have HPV := Lib.hid hPV
        clear hRL k1 k2 hBRV hX7V hX9V hPV hbl5
        go_wp2_with (rw [← eL]; clear eL)
        go_loopw [20, 21] (fun v20 v21 w3 => ∃ (m : Nat) (i : Int), m ≤ n + M ∧ v21 = .int .i64 i ∧ i + 1 = (m : Int) ∧ v20 = .int .i64 (backS M ms xs n (n + M - m)) ∧ Row w3 wV.heap.size 4 ((restB M ms xs n m).map Value.bool) ∧ Below wV.heap.size wV w3) (fun _ i _ => (intOf i + 1).toNat)
        case atStart =>
          refine ⟨n + M, (n : Int) + M - 1, Nat.le_refl _, by first | rfl | go_num, by omega, ?_, ?_, bL⟩
          · rw [Nat.sub_self]; rfl
          · rw [restB_start _ _ _ _ _ (by omega), List.map_replicate]
            exact HRL.out
        case round =>
          obtain ⟨m, i, hm, rfl, him, rfl, hrow, hbW⟩ := hrel
          obtain ⟨wG, rfl⟩ : ∃ wG : World, wG = wr := ⟨_, rfl⟩
          clear d7 d10
          have d7 := (boxed_below HX7V.out hbW HX7V.out.lt).cell
          have d10 := (boxed_below HK1.out hbW HK1.out.lt).cell
          by_cases hm0 : 0 < m
          · obtain ⟨t, rfl⟩ : ∃ t, m = t + 1 := ⟨m - 1, by omega⟩
            obtain rfl : i = (t : Int) := by omega
            clear him
            have hbd := backS_bd (M := M) (ms := ms) (soft := xs) (n := n) (n + M - (t + 1))
            have hbs := backS_step (M := M) (ms := ms) (soft := xs) (n := n) (t := t) (by omega)
            have hst := restB_set (M := M) (ms := ms) (soft := xs) (n := n) (t := t)
            rw [HSS.out] at hbd
            have htb : t < bs.length := by rw [HBLN.out]; omega
            obtain ⟨hb1, ns1, hb2⟩ := HBRV.out t (by omega)
            rw [seqT_range (t + 1) (by omega)] at hb2
            obtain ⟨g, eg⟩ : ∃ g, bs.getD t 0 = g := ⟨_, rfl⟩
            rw [eg] at hb1 hb2
            obtain ⟨a, ea⟩ : ∃ a : Nat, backS M ms xs n (n + M - (t + 1)) = (a : Int) := ⟨(backS M ms xs n (n + M - (t + 1))).toNat, by omega⟩
            rw [ea] at hbd hbs hst
            rw [ea]
            have haS : a < S := by omega
            rw [Int.toNat_natCast] at hbs
            obtain ⟨f, ef⟩ : ∃ f, (tabT M ms xs n (t + 1)).f.getD a 0 = f := ⟨_, rfl⟩
            rw [ef] at hbs
            have k5 : ∀ W : World, Below wV.heap.size wV W → W.cell? ⟨g, a * 3 + 2, none⟩ = some (.int .i64 f) := fun W hW => by
              rw [← ef]
              exact ((hb2.below hW hb2.lt).cells haS).2.2
            have hgV : g5 < wV.heap.size := by
              rcases HK2.out.2 with ⟨h, _⟩ | ⟨g', c', cu', h, _, h3, _⟩
              · cases h
              · obtain rfl : g5 = g' := by injection h with h _ _; injection h with h; injection h
                exact (Array.getElem?_eq_some_iff.1 h3).1
            have k4 : ∀ W : World, Below wV.heap.size wV W → W.cell? ⟨g5, t, none⟩ = some (.slice (some ⟨g, 0, none⟩) S S) := fun W hW => by
              have h1 := World.ownsRow.cellAt (own_below HK2.out hW (Nat.le_refl _)) t (by omega)
              rw [h1]
              have e5 : bs[t] = g := by rw [← eg]; simp [List.getD, htb]
              rw [List.getElem?_map, List.getElem?_eq_getElem htb, e5]
              rfl
            have k1 := k5 wG hbW
            have k3 := k4 wG hbW
            have p1 := k5 _ (hbW.setCell (p := ⟨wV.heap.size, t, none⟩) (by simp) (.bool ((a : Int) % 2 == 1)))
            have p3 := k4 _ (hbW.setCell (p := ⟨wV.heap.size, t, none⟩) (by simp) (.bool ((a : Int) % 2 == 1)))
            have p10 := (boxed_below HK1.out (hbW.setCell (p := ⟨wV.heap.size, t, none⟩) (by simp) (.bool ((a : Int) % 2 == 1))) HK1.out.lt).cell
            have htbi : (t : Int) < ((n + M : Nat) : Int) := by omega
            have hai : (a : Int) < (S : Int) := by omega
            have HST := Lib.hid hst
            have HBS := Lib.hid hbs
            have HRW := Lib.hid hrow
            clear hst hbs ef eg ea hb2 k4 k5 hrow
            by_cases htn : t < n
            · have q1 := HRW.out.get (k := t) (by simp [restB_len]; exact htn)
              have q2 := HRW.out.frz t
              go_wp2
              go_roundw
              case rel =>
                refine ⟨t, (t : Int) - 1, by omega, rfl, by omega, ?_, ?_, hbW.setCell (by simp) _⟩
                · rw [HBS.out]
                · rw [← HST.out, List.map_set]
                  exact HRW.out.put t _
              case measure => simp [intOf]
            · go_wp2
              go_roundw
              case rel =>
                refine ⟨t, (t : Int) - 1, by omega, rfl, by omega, ?_, ?_, hbW⟩
                · rw [HBS.out]
                · rw [← restB_far (by omega)]
                  exact HRW.out
              case measure => simp [intOf]
          · obtain rfl : m = 0 := by omega
            obtain rfl : i = -1 := by omega
            have d9 := (boxed_below HX9V.out hbW HX9V.out.lt).cell
            unfold psV at d9
            have hlen9 := HPV.out.len
            have c1 := ((HPV.out.below hbW HPV.out.lt).cells (s := 0) (by omega)).2.1
            rw [Nat.zero_mul, Nat.zero_add] at c1
            have hgg : wayGain M ms xs n = fl .f32 (ns9.getD 0 0) := by
              unfold wayGain
              rw [← HPV.out.2.2]
              simp [List.getD, show 0 < ns9.length by omega]
            obtain ⟨g1, eg1⟩ : ∃ q, ns9.getD 0 0 = q := ⟨_, rfl⟩
            rw [eg1] at c1 hgg
            have HGG1 := Lib.hid hgg
            have HRW := Lib.hid hrow
            have hKG : wG.heap[Dd]? = some (.deferred (some [])) := (hbW.block Dd (Array.getElem?_eq_some_iff.1 hKV).1).trans hKV
            clear hgg eg1 hrow him hlen9
            go_wp2
            go_quiet (fail)
            go_wp2
            have hKG2 : (wG.drewN nq).heap[Dd]? = some (.deferred (some [])) := hKG
            refine marks_ret1 rfl hKG2 (results_tmp3 rfl _ _ _) ?_
            obtain ⟨e1, e2⟩ := HBL2.out HBO.out
            refine ⟨.slice (some ⟨wV.heap.size, 0, none⟩) n n, g1, by rw [HBO.out]; rfl, by rw [e2, HGG1.out], ?_, (below_drewN (hbV.trans (hbW.mono hzV)) nq).trans (belowK_b (w := w) (Nat.le_refl _) _ Dd _ _ (by omega) hKG2 rfl rfl)⟩
            rw [e1]
            have hrw : Row ((wG.drewN nq).putObj Dd (.deferred none)) wV.heap.size 4 ((restB M ms xs n 0).map Value.bool) :=
              Obj.kept (HRW.out.drewN nq) (grownBy_putObj' _ Dd _) (fun e => by
                injection e with e
                have h2 := (show (wG.drewN nq).heap[wV.heap.size]? = _ from HRW.out)
                rw [e, hKG2] at h2
                cases h2)
            have := hrw.own (base := w.heap.size) hzV (by simp [restB_len]; omega)
            rw [restB_end, List.length_map, ← restB_end, restB_len, restB_end] at this
            exact this

end Go.Proofs.Ytopeidmafalklaa


namespace Go.Proofs.Ytopeidmafalklaa
open Go.RowKit

theorem long_neg {m : Int} {ms : List Int} {xs : List Nat} (h1 : validCoderB m ms = true) (h2 : softB xs = true) : decide (longV m ms.length xs.length < 0) = !sentOk m ms xs := by
  have hp := (vc_facts h1).2.2.1
  unfold longV sentOk sentB sentN
  rw [h1, h2, Bool.true_and, Bool.true_and]
  by_cases h3 : xs.length % ms.length = 0 ∧ 0 ≤ ((xs.length / ms.length : Nat) : Int) - m ∧ ((xs.length / ms.length : Nat) : Int) - m ≤ 40
  · rw [if_pos h3]
    obtain ⟨a, b, c⟩ := h3
    rw [a, decide_eq_true b, decide_eq_true c]
    simp only [beq_self_eq_true, Bool.true_and, Bool.not_true, decide_eq_false_iff_not]
    omega
  · rw [if_neg h3]
    have : (xs.length % ms.length == 0 && decide (0 ≤ ((xs.length / ms.length : Nat) : Int) - m) && decide (((xs.length / ms.length : Nat) : Int) - m ≤ 40)) = false := by
      rw [Bool.eq_false_iff]
      intro h
      simp only [Bool.and_eq_true, beq_iff_eq, decide_eq_true_eq] at h
      exact h3 ⟨h.1.1, h.1.2, h.2⟩
    rw [this]
    rfl
theorem long_yes {m : Int} {ms : List Int} {xs : List Nat} (h : sentOk m ms xs = true) : longV m ms.length xs.length = sentN m ms xs := by
  unfold sentOk sentB at h
  simp only [Bool.and_eq_true, decide_eq_true_eq, beq_iff_eq] at h
  obtain ⟨⟨⟨⟨_, _⟩, h3⟩, h4⟩, h5⟩ := h
  unfold longV
  rw [if_pos ⟨h3, h4, h5⟩]
  rfl

theorem bestL_len (m : Int) (ms : List Int) (xs : List Nat) : (bestL m ms xs).length ≤ 40 := by
  unfold bestL
  split
  · rename_i h
    unfold bestOk at h
    rw [Bool.and_eq_true] at h
    obtain ⟨M, n, -, -, -, -, -, -, hn, hsn, -, -⟩ := sent_facts h.1
    rw [hsn, Int.toNat_natCast]
    unfold wayBits
    simpa using hn
  · simp


set_option maxRecDepth 100000 in
set_option maxHeartbeats 2000000 in
theorem spec_BestWay_c (w : World) (m : Int) (A : Option Addr) (k cap : Nat) (ms : List Int) (hl : ms.length = k) (hk : k ≤ 1048576) (hx : Sl w w.heap.size A (ms.map (Value.int .i64)))
    (A2 : Option Addr) (n2 cap2 : Nat) (xs : List Nat) (hl2 : xs.length = n2) (hn2 : n2 ≤ 1048576) (hy : Sl w w.heap.size A2 (xs.map (Value.float .f32))) (hA : RowA A2 n2 cap2) :
    Calls Try.prog 29 #[.agg #[.int .i64 m, .slice A k cap], .slice A2 n2 cap2] w (BestPost w m ms xs) := by
  obtain ⟨w1, e1⟩ : ∃ q : World, q = w.alloc (.cells #[.int .i64 m, .slice A k cap] 29) := ⟨_, rfl⟩
  have b1 : Below w.heap.size w w1 := by rw [e1]; exact (Below.refl _ _).alloc (Nat.le_refl _) _
  have z1 : w1.heap.size = w.heap.size + 1 := by rw [e1]; simp
  have hO : Obj w1 w.heap.size 29 #[.int .i64 m, .slice A k cap] := by rw [e1]; exact Obj.new _ _ _
  have C0 : w1.cell? ⟨w.heap.size, 0, none⟩ = some (.int .i64 m) := hO.cell 0
  have C1 : w1.cell? ⟨w.heap.size, 1, none⟩ = some (.slice A k cap) := hO.cell 1
  have HC := Lib.hid (spec_l07Coder_c w1 w.heap.size m w.heap.size A k cap ms C0 C1 hl hk (hx.below b1))
  have HS := Lib.hid (fun q : Nat => spec_l07Soft_c (w1.drewN q) w.heap.size A2 n2 cap2 xs hl2 ((hy.below b1).drewN q))
  have hcap : n2 ≤ cap2 := by
    rcases hA with ⟨_, h1, h2⟩ | ⟨_, _, h, _⟩
    · omega
    · exact h
  have HX := Lib.hid (hx.below b1)
  have HY := Lib.hid (hy.below b1)
  have HO := Lib.hid hO
  have HC0 := Lib.hid C0
  have HC1 := Lib.hid C1
  clear hx hy hO C0 C1
  cases hv : validCoderB m ms
  · have hbo : bestOk m ms xs = false := by unfold bestOk sentOk sentB; rw [hv]; rfl
    rw [hv] at HC
    have HBO := Lib.hid hbo
    clear hv hbo
    go_enter Try.func29, Try.ntmps29
    go_wp2_with (rw [← e1]; clear e1)
    refine HC.out.mono ?_
    rintro e w2 ⟨rfl, q, rfl⟩
    go_wp2
    go_ret3
    exact best_fail HBO.out (below_drewN b1 q)
  · rw [hv] at HC
    obtain ⟨hm1, hm4, hk1, hk4, hr⟩ := vc_facts hv
    rw [hl] at hk1 hk4
    have HL := Lib.hid (fun q : Nat => spec_l07Long_c (w1.drewN q) w.heap.size m (by omega) hm4 A k cap hk1 hk4 HC0.out HC1.out A2 n2 cap2 hn2)
    cases hs : softB xs
    · have hbo : bestOk m ms xs = false := by unfold bestOk sentOk sentB; rw [hs, Bool.and_false]; rfl
      rw [hs] at HS
      have HBO := Lib.hid hbo
      clear hv hbo hs
      go_enter Try.func29, Try.ntmps29
      go_wp2_with (rw [← e1]; clear e1)
      refine HC.out.mono ?_
      rintro e w2 ⟨rfl, q, rfl⟩
      go_wp2_with fail
      refine (HS.out q).mono ?_
      rintro e w3 ⟨rfl, q3, rfl⟩
      go_wp2
      go_ret3
      exact best_fail HBO.out (below_drewN b1 _)
    · rw [hs] at HS
      have hneg := long_neg hv hs
      rw [hl, hl2] at hneg
      cases ho : sentOk m ms xs
      · have hbo : bestOk m ms xs = false := by unfold bestOk; rw [ho]; rfl
        rw [ho] at hneg
        have HBO := Lib.hid hbo
        obtain ⟨z, hz⟩ : ∃ z, longV m k n2 = z := ⟨_, rfl⟩
        rw [hz] at HL hneg
        have hneg2 : decide (z < 0) = true := hneg
        clear hv hbo hs ho hneg hz
        go_enter Try.func29, Try.ntmps29
        go_wp2_with (rw [← e1]; clear e1)
        refine HC.out.mono ?_
        rintro e w2 ⟨rfl, q, rfl⟩
        go_wp2_with fail
        refine (HS.out q).mono ?_
        rintro e w3 ⟨rfl, q3, rfl⟩
        rw [World.drewN_drewN]
        go_wp2_with fail
        refine (HL.out _).mono ?_
        rintro e w4 ⟨rfl, q4, rfl⟩
        go_wp2
        go_ret3
        exact best_fail HBO.out (below_drewN b1 _)
      · obtain ⟨M, n, rfl, hM1, hM4, -, -, -, hn, hsn, hnn, hx160⟩ := sent_facts ho
        rw [hl, hl2] at hnn
        have hly := long_yes ho
        rw [hl, hl2, hsn] at hly
        rw [hly] at HL hneg
        have hneg2 : decide ((n : Int) < 0) = false := by rw [hneg, ho]; rfl
        have hbo : bestOk (M : Int) ms xs = finB (wayGain M ms xs n) := by
          unfold bestOk
          rw [ho, hsn, Bool.true_and, Int.toNat_natCast, Int.toNat_natCast]
        have hbl2 : bestOk (M : Int) ms xs = true → bestL (M : Int) ms xs = wayBits M ms xs n ∧ bestG (M : Int) ms xs = wayGain M ms xs n := fun h => by
          unfold bestL bestG
          rw [h, if_pos rfl, if_pos rfl, hsn, Int.toNat_natCast, Int.toNat_natCast]
          exact ⟨rfl, rfl⟩
        have HW := Lib.hid (fun q : Nat => spec_l07Way_c (w1.drewN q) w.heap.size M hM1 hM4 A k cap ms hl hk1 hk4 hr HO.out (HX.out.more b1.size) A2 n2 cap2 xs hl2 (HY.out.more b1.size) n hn hnn hcap)
        have HBO := Lib.hid hbo
        have HBL2 := Lib.hid hbl2
        clear hv hbo hs ho hneg hly hsn hnn hbl2
        go_enter Try.func29, Try.ntmps29
        go_wp2_with (rw [← e1]; clear e1)
        refine HC.out.mono ?_
        rintro e w2 ⟨rfl, q, rfl⟩
        go_wp2_with fail
        refine (HS.out q).mono ?_
        rintro e w3 ⟨rfl, q3, rfl⟩
        rw [World.drewN_drewN]
        go_wp2_with fail
        refine (HL.out _).mono ?_
        rintro e w4 ⟨rfl, q4, rfl⟩
        rw [World.drewN_drewN]
        go_wp2_with fail
        refine (HL.out _).mono ?_
        rintro e w5 ⟨rfl, q5, rfl⟩
        rw [World.drewN_drewN]
        go_wp2_with fail
        refine (HW.out _).mono ?_
        rintro e w6 ⟨v, g, rfl, hg, hov, hb6⟩
        have hfin := spec_l01Finite_c w6 g
        rw [hg] at hfin
        have HG := Lib.hid hg
        have hb7 : Below w.heap.size w w6 := (below_drewN b1 _).trans (hb6.mono b1.size)
        have hov2 : Ow w6 w.heap.size 4 v ((wayBits M ms xs n).map Value.bool) := own_base hov b1.size
        clear hg hov hb6
        cases hfb : finB (wayGain M ms xs n)
        · rw [hfb] at hfin HBO
          have HF := Lib.hid hfin
          clear hfin hfb
          go_wp2_with fail
          refine HF.out.mono ?_
          rintro e w8 ⟨rfl, q8, rfl⟩
          go_wp2
          go_ret3
          exact best_fail HBO.out (below_drewN hb7 _)
        · rw [hfb] at hfin HBO
          have HF := Lib.hid hfin
          clear hfin hfb
          go_wp2_with fail
          refine HF.out.mono ?_
          rintro e w8 ⟨rfl, q8, rfl⟩
          go_wp2
          go_ret3
          obtain ⟨e1, e2⟩ := HBL2.out HBO.out
          refine ⟨v, g, by rw [HBO.out]; rfl, by rw [e2, HG.out], ?_, below_drewN hb7 _⟩
          rw [e1]
          exact hov2

end Go.Proofs.Ytopeidmafalklaa


namespace Go.Proofs.Ytopeidmafalklaa
open Go.RowKit Go.Shelf

def rV (S g : Nat) : Value := .slice (some ⟨g, 0, none⟩) S S
theorem infoSumS : (Try.prog.info? 68).map (fun i => (i.zero, i.size, i.bytes)) = some (some (.slice none 0 0), 1, 24) := by kernel_rfl
theorem infoLikelyS : (Try.prog.info? 84).map (fun i => (i.zero, i.size, i.bytes)) = some (some (.slice none 0 0), 1, 24) := by kernel_rfl
theorem infoMoveS : (Try.prog.info? 82).map (fun i => (i.zero, i.size, i.bytes)) = some (some (.slice none 0 0), 1, 24) := by kernel_rfl
/-- a row of the call's own of tables, each in a block of the call's own -/
def AR (e st : TypeId) (base S : Nat) (F : Nat → List St) (W : World) (v : Value) (bs : List Nat) : Prop :=
  Ow W base st v (bs.map (rV S)) ∧ ∀ i, i < bs.length → base ≤ bs.getD i 0 ∧ SRow e W (bs.getD i 0) S (F i)
theorem AR.below {e st : TypeId} {base S : Nat} {F : Nat → List St} {W W' : World} {v : Value} {bs : List Nat} (h : AR e st base S F W v bs) (hb : Below W.heap.size W W') : AR e st base S F W' v bs :=
  ⟨own_below h.1 hb (Nat.le_refl _), fun i hi => ⟨(h.2 i hi).1, (h.2 i hi).2.below hb (h.2 i hi).2.lt⟩⟩
theorem AR.drewN {e st : TypeId} {base S : Nat} {F : Nat → List St} {W : World} {v : Value} {bs : List Nat} (h : AR e st base S F W v bs) (k : Nat) : AR e st base S F (W.drewN k) v bs := h
theorem AR.get {e st : TypeId} {base S : Nat} {F : Nat → List St} {W : World} {v : Value} {bs : List Nat} (h : AR e st base S F W v bs) {i : Nat} (hi : i < bs.length) :
    ∃ g c, v = .slice (some ⟨g, 0, none⟩) bs.length c ∧ base ≤ g ∧ g < W.heap.size ∧ W.cell? ⟨g, i, none⟩ = some (rV S (bs.getD i 0)) := by
  obtain ⟨A, cap, hv, ho⟩ := h.1.opn
  obtain ⟨g, cap', hv2, hbg, hgs⟩ := ho.form (by omega)
  have hc := (hv2 ▸ ho).cellAt i (by omega)
  refine ⟨g, cap', hv.trans hv2, hbg, hgs, hc.trans ?_⟩
  rw [List.getElem?_map]
  simp [List.getD, hi]
theorem AR.step {e st : TypeId} (hne : e ≠ st) {base S : Nat} {F : Nat → List St} {wA wB w1 : World} {v v' : Value} {bs : List Nat} {nb : Nat} (h : AR e st base S F wA v bs) (hbA : Below wA.heap.size wA wB) (hnb : base ≤ nb) (hT : SRow e wB nb S (F bs.length)) (o : Go.Obj)
    (hg : (wB.alloc o).grownBy w1 v.ownBlock) (ho : Ow w1 base st v' ((bs.map (rV S)) ++ [rV S nb])) : AR e st base S F w1 v' (bs ++ [nb]) := by
  have hB := h.below hbA
  have hC := hB.1.alloc o
  refine ⟨by rw [List.map_append]; exact ho, fun i hi => ?_⟩
  rw [List.length_append, List.length_singleton] at hi
  by_cases q : i < bs.length
  · have e1 : (bs ++ [nb]).getD i 0 = bs.getD i 0 := by simp only [List.getD, List.getElem?_append_left q]
    rw [e1]
    exact ⟨(hB.2 i q).1, ((hB.2 i q).2.alloc o).kept hC hne hg⟩
  · have e0 : i = bs.length := by omega
    subst e0
    have e1 : (bs ++ [nb]).getD bs.length 0 = nb := by simp [List.getD]
    rw [e1]
    exact ⟨hnb, (hT.alloc o).kept hC hne hg⟩

theorem own_set_other {w : World} {base g n c : Nat} {e : TypeId} {xs : List Value} (h : w.ownsRow base e 1 (.slice (some ⟨g, 0, none⟩) n c) n xs) {p : Addr} (hp : p.block ≠ g) (u : Value) : (w.setCell p u).ownsRow base e 1 (.slice (some ⟨g, 0, none⟩) n c) n xs := by
  obtain ⟨h1, h2⟩ := h
  refine ⟨h1, ?_⟩
  rcases h2 with h2 | ⟨g', cap, cur, hv, hg, hh, r⟩
  · exact .inl h2
  · injection hv with hv hn hc
    injection hv with hv
    injection hv with hv
    subst hv
    exact .inr ⟨g, cap, cur, by rw [hc], hg, by rw [Below.heap_setCell _ _ _ _ (by omega)]; exact hh, r⟩
/-- a row of tables that is filled from its end -/
def brow (S N t : Nat) (cs : List Nat) : List Value := (List.range (N + 1)).map fun i => if t ≤ i then rV S (cs.getD (N - i) 0) else .slice none 0 0
theorem brow_len (S N t : Nat) (cs : List Nat) : (brow S N t cs).length = N + 1 := by simp [brow]
theorem brow_none (S N : Nat) : brow S N (N + 1) [] = List.replicate (N + 1) (.slice none 0 0) := by
  unfold brow
  refine List.ext_getElem (by simp) fun i h1 h2 => ?_
  simp only [List.length_map, List.length_range] at h1
  rw [List.getElem_map, List.getElem_range, if_neg (by omega), List.getElem_replicate]
theorem brow_get {S N t i : Nat} {cs : List Nat} (h : t ≤ i) (hi : i ≤ N) : (brow S N t cs)[i]'(by rw [brow_len]; omega) = rV S (cs.getD (N - i) 0) := by
  unfold brow
  rw [List.getElem_map, List.getElem_range, if_pos h]
theorem brow_at {S N t i : Nat} {cs : List Nat} (hi : i ≤ N) : (brow S N t cs)[i]? = some (if t ≤ i then rV S (cs.getD (N - i) 0) else .slice none 0 0) := by
  unfold brow
  rw [List.getElem?_map, List.getElem?_range (by omega)]
  rfl
theorem brow_out {S N t i : Nat} {cs : List Nat} (hi : ¬ i ≤ N) : (brow S N t cs)[i]? = none := List.getElem?_eq_none (by rw [brow_len]; omega)
theorem brow_set {S N t nb : Nat} {cs : List Nat} (ht : t ≤ N) (hc : cs.length = N - t) : (brow S N (t + 1) cs).set t (rV S nb) = brow S N t (cs ++ [nb]) := by
  refine List.ext_getElem? fun i => ?_
  rw [List.getElem?_set]
  by_cases hi : i ≤ N
  · rw [brow_at hi, brow_at hi, brow_len]
    by_cases e : t = i
    · subst e
      rw [if_pos rfl, if_pos (by omega), if_pos (Nat.le_refl _)]
      congr 2
      rw [← hc]
      simp [List.getD]
    · rw [if_neg e]
      by_cases q : t ≤ i
      · rw [if_pos (by omega), if_pos q]
        congr 2
        have hl : N - i < cs.length := by omega
        simp only [List.getD, List.getElem?_append_left hl]
      · rw [if_neg (by omega), if_neg q]
  · rw [brow_out hi, brow_out hi, if_neg (by omega)]
/-- the tables backward, all from a place on -/
def BRel (e st : TypeId) (wM : World) (S N : Nat) (F : Nat → List St) (t : Nat) (wr : World) : Prop :=
  ∃ cs : List Nat, cs.length = N + 1 - t ∧ Row wr wM.heap.size st (brow S N t cs) ∧ (∀ j, j < cs.length → wM.heap.size < cs.getD j 0 ∧ SRow e wr (cs.getD j 0) S (F j)) ∧ Below wM.heap.size wM wr
theorem BRel.below {e st : TypeId} {wM : World} {S N : Nat} {F : Nat → List St} {t : Nat} {W W' : World} (h : BRel e st wM S N F t W) (hb : Below W.heap.size W W') (hM : wM.heap.size ≤ W.heap.size) : BRel e st wM S N F t W' := by
  obtain ⟨cs, h1, h2, h3, h4⟩ := h
  exact ⟨cs, h1, h2.below hb h2.lt, fun j hj => ⟨(h3 j hj).1, (h3 j hj).2.below hb (h3 j hj).2.lt⟩, h4.trans (hb.mono hM)⟩

section
variable {e st : TypeId} {wM wB : World} {S N t : Nat} {F : Nat → List St}
theorem BRel.start (h : BRel e st wM S N F (t + 1) wB) (ht : t + 1 ≤ N) :
    wM.heap.size < wB.heap.size ∧ (∃ u, wB.cell? ⟨wM.heap.size, t, none⟩ = some u) ∧ wB.frozen? ⟨wM.heap.size, t, none⟩ = false ∧ ∃ b1, wM.heap.size < b1 ∧ b1 < wB.heap.size ∧ ∀ wX, wX = (wB.setCell ⟨wM.heap.size, t, none⟩ (rV S wB.heap.size)).alloc (.cells (madeCells #[Value.bool false, .float .f32 0] (S * 2)) e) →
      wX.cell? ⟨wM.heap.size, t, none⟩ = some (rV S wB.heap.size) ∧ wX.cell? ⟨wM.heap.size, t + 1, none⟩ = some (rV S b1) ∧ SRow e wX b1 S (F (N - (t + 1))) ∧ SRow e wX wB.heap.size S (noneR S) ∧ wB.heap.size + 1 ≤ wX.heap.size ∧
      ∀ wr, Below wB.heap.size wX wr → SRow e wr wB.heap.size S (F (N - t)) → BRel e st wM S N F t wr := by
  obtain ⟨cs, h1, h2, h3, h4⟩ := h
  have hl : cs.length = N - t := by omega
  have hz := h4.size
  have hbz := h2.lt
  have hc0 : N - (t + 1) < cs.length := by omega
  obtain ⟨hb1, hs1⟩ := h3 (N - (t + 1)) hc0
  refine ⟨hbz, ⟨_, h2.get (by rw [brow_len]; omega)⟩, h2.frz t, cs.getD (N - (t + 1)) 0, hb1, hs1.lt, fun wX eX => ?_⟩
  have rX : Row wX wM.heap.size st (brow S N t (cs ++ [wB.heap.size])) := by
    have h := (h2.put t (rV S wB.heap.size)).alloc (.cells (madeCells #[Value.bool false, .float .f32 0] (S * 2)) e)
    rw [brow_set (by omega) hl] at h
    rw [eX]
    exact h
  have hzX : wX.heap.size = wB.heap.size + 1 := by rw [eX]; simp
  have hkeep : ∀ j, j < cs.length → SRow e wX (cs.getD j 0) S (F j) := fun j hj => by
    rw [eX]
    exact ((h3 j hj).2.far (by have := (h3 j hj).1; omega) _ _).alloc _
  have sX : SRow e wX wB.heap.size S (noneR S) := by
    have h := SRow.new e (wB.setCell ⟨wM.heap.size, t, none⟩ (rV S wB.heap.size)) S
    rw [show (wB.setCell ⟨wM.heap.size, t, none⟩ (rV S wB.heap.size)).heap.size = wB.heap.size by simp] at h
    rw [eX]
    exact h
  have bX : Below wM.heap.size wM wX := by
    rw [eX]
    exact (Below.setCell (p := ⟨wM.heap.size, t, none⟩) h4 (Nat.le_refl _) _).alloc (by simp; omega) _
  refine ⟨?_, ?_, hkeep _ hc0, sX, by omega, fun wr hb hS => ?_⟩
  · have h := rX.get (k := t) (by rw [brow_len]; omega)
    rw [brow_get (Nat.le_refl _) (by omega), ← hl] at h
    rw [h]
    simp [List.getD]
  · have h := rX.get (k := t + 1) (by rw [brow_len]; omega)
    rw [brow_get (by omega) (by omega)] at h
    rw [h]
    simp only [List.getD, List.getElem?_append_left hc0]
  · refine ⟨cs ++ [wB.heap.size], by rw [List.length_append, List.length_singleton]; omega, rX.below hb hbz, fun j hj => ?_, bX.trans (hb.mono (by omega))⟩
    rw [List.length_append, List.length_singleton] at hj
    by_cases q : j < cs.length
    · have e1 : (cs ++ [wB.heap.size]).getD j 0 = cs.getD j 0 := by simp only [List.getD, List.getElem?_append_left q]
      rw [e1]
      exact ⟨(h3 j q).1, (hkeep j q).below hb (h3 j q).2.lt⟩
    · obtain rfl : j = cs.length := by omega
      have e1 : (cs ++ [wB.heap.size]).getD cs.length 0 = wB.heap.size := by simp [List.getD]
      rw [e1, hl]
      exact ⟨hbz, hS⟩
end

/-- both sums within a state: behind so many bits -/
def sumJ (M : Nat) (ms : List Int) (part : List Nat) (a b : List St) (s : Nat) : Nat → List St
  | 0 => [sumR M ms part a b false s, sumR M ms part a b true s]
  | 1 => [sumR M ms part a b false (s + 1), sumR M ms part a b true s]
  | _ + 2 => [sumR M ms part a b false (s + 1), sumR M ms part a b true (s + 1)]
theorem sumJ_step {M : Nat} {ms : List Int} {part : List Nat} {a b : List St} {s : Nat} (c : Bool) : sumJ M ms part a b s (bN c + 1) = (sumJ M ms part a b s (bN c)).set (bN c) (sumE M ms part a b s c ((sumJ M ms part a b s (bN c)).getD (bN c) none)) := by cases c <;> rfl
theorem sumX_none1 {y : St} {h : Option Nat} {u : St} : sumX none y h u = u := by cases y <;> rfl
theorem sumX_none2 {x : St} {h : Option Nat} {u : St} : sumX x none h u = u := by cases x <;> rfl
theorem sumJ_same {M : Nat} {ms : List Int} {part : List Nat} {a b : List St} {s : Nat} {c : Bool} (h : b.getD (toS M s c) none = none) : sumJ M ms part a b s (bN c + 1) = sumJ M ms part a b s (bN c) := by
  rw [sumJ_step]
  unfold sumE
  rw [h, sumX_none2, set_same]
theorem sumJ_skip {M : Nat} {ms : List Int} {part : List Nat} {a b : List St} {s : Nat} (h : a.getD s none = none) : sumJ M ms part a b (s + 1) 0 = sumJ M ms part a b s 0 := by
  have e : ∀ c, sumR M ms part a b c (s + 1) = sumR M ms part a b c s := fun c => by
    show sumE M ms part a b s c _ = _
    unfold sumE
    rw [h, sumX_none1]
  unfold sumJ
  rw [e, e]
theorem own_lower {w : World} {base base' size n : Nat} {e : TypeId} {v : Value} {xs : List Value} (h : w.ownsRow base e size v n xs) (hb : base' ≤ base) : w.ownsRow base' e size v n xs := by
  obtain ⟨h1, h2⟩ := h
  refine ⟨h1, ?_⟩
  rcases h2 with h2 | ⟨g, cap, cur, hv, hg, r⟩
  · exact .inl h2
  · exact .inr ⟨g, cap, cur, hv, Nat.le_trans hb hg, r⟩
theorem own_dallocY {w : World} {n base size k : Nat} {e : TypeId} {v : Value} {xs : List Value} (h : w.ownsRow base e size v k xs) (o : Go.Obj) : ((w.drewN n).alloc o).ownsRow base e size v k xs := World.ownsRow.alloc (w := w.drewN n) h o
theorem outT_step {M : Nat} {ms : List Int} {soft : List Nat} {n t : Nat} {l : List (Option Nat)} (h : outT M ms soft n t = some l) {x y : Option Nat} (hx : sumT M ms soft n t false = some x) (hy : sumT M ms soft n t true = some y) : outT M ms soft n (t + 1) = some (l ++ [fop .sub .f32 y x]) := by
  show (outT M ms soft n t).bind _ = _
  rw [h, hx, hy]
  rfl
theorem outT_stop {M : Nat} {ms : List Int} {soft : List Nat} {n t : Nat} (h : sumT M ms soft n t false = none ∨ sumT M ms soft n t true = none) : outT M ms soft n (t + 1) = none := by
  show (outT M ms soft n t).bind _ = _
  cases outT M ms soft n t with
  | none => rfl
  | some l =>
    show (outS _ _).map _ = none
    rcases h with h | h
    · rw [h]; rfl
    · rw [h]; cases sumT M ms soft n t false <;> rfl

/-! what is returned -/
def allOk (m : Int) (ms : List Int) (xs : List Nat) : Bool := sentOk m ms xs && match outT m.toNat ms xs (sentN m ms xs).toNat (sentN m ms xs).toNat with
  | some l => l.all finB
  | none => false
def allL (m : Int) (ms : List Int) (xs : List Nat) : List (Option Nat) := if allOk m ms xs then (outT m.toNat ms xs (sentN m ms xs).toNat (sentN m ms xs).toNat).getD [] else []
def AllPost (w : World) (m : Int) (ms : List Int) (xs : List Nat) (e : Ending) (w' : World) : Prop :=
  ∃ (v : Value) (ys : List Nat), e = .returned (.tuple #[v, .bool (allOk m ms xs)]) ∧ ys.map (fl .f32) = allL m ms xs ∧ Ow w' w.heap.size 46 v (ys.map (Value.float .f32)) ∧ Below w.heap.size w w'
theorem all_fail {w w' : World} {m : Int} {ms : List Int} {xs : List Nat} (h : allOk m ms xs = false) (hb : Below w.heap.size w w') : AllPost w m ms xs (.returned (.tuple #[.slice none 0 0, .bool false])) w' :=
  ⟨_, [], by rw [h], by unfold allL; rw [h]; rfl, ⟨rfl, .inl ⟨rfl, rfl⟩⟩, hb⟩
theorem allw_not {m : Int} {ms : List Int} {xs : List Nat} (h : sentOk m ms xs = false) : allOk m ms xs = false := by unfold allOk; rw [h]; rfl
theorem all_none {M n : Nat} {ms : List Int} {xs : List Nat} (hsn : sentN (M : Int) ms xs = (n : Int)) (h : outT M ms xs n n = none) : allOk (M : Int) ms xs = false := by
  unfold allOk
  rw [hsn, Int.toNat_natCast, Int.toNat_natCast, h, Bool.and_false]
theorem all_some {M n : Nat} {ms : List Int} {xs : List Nat} {l : List (Option Nat)} (hs : sentOk (M : Int) ms xs = true) (hsn : sentN (M : Int) ms xs = (n : Int)) (h : outT M ms xs n n = some l) : allOk (M : Int) ms xs = l.all finB ∧ (l.all finB = true → allL (M : Int) ms xs = l) := by
  have e : allOk (M : Int) ms xs = l.all finB := by
    unfold allOk
    rw [hs, hsn, Int.toNat_natCast, Int.toNat_natCast, h, Bool.true_and]
  refine ⟨e, fun hf => ?_⟩
  unfold allL
  rw [e, if_pos hf, hsn, Int.toNat_natCast, Int.toNat_natCast, h]
  rfl
/-- where a bit's sum is not there, all is not there -/
theorem outT_none {M : Nat} {ms : List Int} {soft : List Nat} {n t : Nat} (h : outT M ms soft n t = none) : ∀ j, outT M ms soft n (t + j) = none
  | 0 => h
  | j + 1 => by
    show (outT M ms soft n (t + j)).bind _ = none
    rw [outT_none h j]
    rfl

end Go.Proofs.Ytopeidmafalklaa


namespace Go.Proofs.Ytopeidmafalklaa
open Go.RowKit

variable {M n : Nat} {ms : List Int} {soft : List Nat} {hv : Nat → Nat → Bool → Int}
/-- one side of a backward row -/
def bside (M : Nat) (ms : List Int) (part : List Nat) (a : List St) (s : Nat) (b : Bool) : St := plusS (a.getD (toS M s b) none) (halfO ms part s b)
theorem joinS_none1 (x : St) : joinS none x = x := by cases x <;> rfl
theorem bwdR_get (part : List Nat) (last : Bool) (a : List St) : ∀ r s, r ≤ 2 ^ M → s < 2 ^ M → (bwdR M ms part last a r).getD s none = if s < r then (if last then bside M ms part a s false else joinS (bside M ms part a s false) (bside M ms part a s true)) else none
  | 0, s, _, hs => by
    rw [if_neg (by omega)]
    show (noneR (2 ^ M)).getD s none = none
    unfold noneR
    simp [List.getD, hs]
  | r + 1, s, hr, hs => by
    have ih := bwdR_get part last a r s (by omega) hs
    have ihr := bwdR_get part last a r r (by omega) (by omega)
    rw [if_neg (by omega)] at ihr
    have hl := bwdR_len (M := M) (ms := ms) (part := part) (last := last) (a := a) r
    have e0 : bwdE M ms part last a r false (bwdR M ms part last a r) = (bwdR M ms part last a r).set r (bside M ms part a r false) := by
      unfold bwdE
      rw [if_neg (by simp), ihr, joinS_none1]
      rfl
    show (bwdE M ms part last a r true (bwdE M ms part last a r false (bwdR M ms part last a r))).getD s none = _
    rw [e0]
    cases last with
    | true =>
      rw [show ∀ T, bwdE M ms part true a r true T = T from fun T => rfl, getD_set (by rw [hl]; omega)]
      by_cases e : r = s
      · subst e
        rw [if_pos rfl, if_pos (by omega), if_pos rfl]
      · rw [if_neg e, ih]
        by_cases q : s < r
        · rw [if_pos q, if_pos (show s < r + 1 by omega)]
        · rw [if_neg q, if_neg (show ¬ s < r + 1 by omega)]
    | false =>
      rw [show ∀ T, bwdE M ms part false a r true T = T.set r (joinS (T.getD r none) (bside M ms part a r true)) from fun T => rfl, getD_set (by rw [List.length_set, hl]; omega), getD_set (by rw [hl]; omega), getD_set (by rw [hl]; omega), if_pos rfl]
      by_cases e : r = s
      · subst e
        rw [if_pos rfl, if_pos (by omega), if_neg (by simp)]
      · rw [if_neg e, if_neg e, ih]
        by_cases q : s < r
        · rw [if_pos q, if_pos (show s < r + 1 by omega)]
        · rw [if_neg q, if_neg (show ¬ s < r + 1 by omega)]
/-- a table so many steps from the end: its value, from above and below -/
def BF (M n : Nat) (hv : Nat → Nat → Bool → Int) (j : Nat) (T : List St) : Prop :=
  ∀ s, s < 2 ^ M → ∀ q, T.getD s none = some q → (∃ c, Leg n c ∧ stG M s c (n + M - j) j = 0) ∧
    ∀ X : Int, X ≤ 1024 * (j : Int) → (∀ c, Leg n c → stG M s c (n + M - j) j = 0 → met M hv s c (n + M - j) j ≤ X) → Bd (-(1024 * (j : Int))) (X + 45 * ((j - M : Nat) : Int)) q
theorem metB_bd (H : HW M n ms soft hv) {c : Nat → Bool} {s j : Nat} (hs : s < 2 ^ M) (hj : j ≤ n + M) : -(1024 * (j : Int)) ≤ met M hv s c (n + M - j) j ∧ met M hv s c (n + M - j) j ≤ 1024 * (j : Int) :=
  met_bd hs j fun i s b hi hs => H.bd _ s b (by omega) hs
theorem bside_up (H : HW M n ms soft hv) {j : Nat} (hj : j < n + M) {a : List St} (ha : BF M n hv j a) {s : Nat} (hs : s < 2 ^ M) {b : Bool} (hb : n ≤ n + M - (j + 1) → b = false) {q : Option Nat} (hq : bside M ms (partL ms.length soft (n + M - (j + 1))) a s b = some q) :
    (∃ c, Leg n c ∧ stG M s c (n + M - (j + 1)) (j + 1) = 0) ∧ ∀ X : Int, X ≤ 1024 * ((j + 1 : Nat) : Int) → (∀ c, Leg n c → stG M s c (n + M - (j + 1)) (j + 1) = 0 → met M hv s c (n + M - (j + 1)) (j + 1) ≤ X) →
      Bd (-(1024 * ((j + 1 : Nat) : Int))) (X + 45 * ((j - M : Nat) : Int)) q := by
  have hn5 := H.n5
  have hm3 := H.m3
  unfold bside at hq
  cases hp : a.getD (toS M s b) none with
  | none => rw [hp] at hq; exact nomatch hq
  | some p =>
    rw [hp] at hq
    cases hq
    obtain ⟨⟨c, hc, hcs⟩, h3⟩ := ha _ (toS_lt b) p hp
    have hpl : n + M - j = n + M - (j + 1) + 1 := by omega
    rw [hpl] at hcs h3
    obtain ⟨d, hd, hd1, hd2⟩ := path_front (M := M) (iv := hv) (s := s) (j := j) hc hb
    rw [hcs] at hd1
    refine ⟨⟨d, hd, hd1⟩, fun X hX hcc => ?_⟩
    have hlow := hcc d hd hd1
    obtain ⟨v1, v2⟩ := H.bd (n + M - (j + 1)) s b (by omega) hs
    have hX' : ∀ e, Leg n e → stG M (toS M s b) e (n + M - (j + 1) + 1) j = 0 → met M hv (toS M s b) e (n + M - (j + 1) + 1) j ≤ min (X - hv (n + M - (j + 1)) s b) (1024 * (j : Int)) := fun e he hes => by
      obtain ⟨f, hf, hf1, hf2⟩ := path_front (M := M) (iv := hv) (s := s) (j := j) he hb
      rw [hes] at hf1
      have h4 := hcc f hf hf1
      have h5 := metB_bd H (c := e) (s := toS M s b) (j := j) (toS_lt b) (by omega)
      rw [hpl] at h5
      omega
    have h6 := h3 (min (X - hv (n + M - (j + 1)) s b) (1024 * (j : Int))) (by omega) hX'
    have h7 := hX' c hc hcs
    have hm := metB_bd H (c := c) (s := toS M s b) (j := j) (toS_lt b) (by omega)
    rw [hpl] at hm
    have h8 := h6.add (H.val (n + M - (j + 1)) s b (by omega) hs) (by omega) (by omega)
    exact h8.mono (by push_cast; omega) (by omega)
theorem bwdT_succ (j : Nat) : bwdT M ms soft n (j + 1) = bwdR M ms (partL ms.length soft (n + M - (j + 1))) (decide (n ≤ n + M - (j + 1))) (bwdT M ms soft n j) (2 ^ M) := by
  show bwdR M ms (partL ms.length soft (n + M - 1 - j)) (decide (n ≤ n + M - 1 - j)) (bwdT M ms soft n j) (2 ^ M) = _
  rw [show n + M - 1 - j = n + M - (j + 1) by omega]
theorem BF.tab (H : HW M n ms soft hv) : ∀ j, j ≤ n + M → BF M n hv j (bwdT M ms soft n j)
  | 0, _ => by
    intro s hs q hq
    obtain ⟨rfl, rfl⟩ := oneR_get (S := 2 ^ M) hq
    refine ⟨⟨fun _ => false, fun _ _ => rfl, rfl⟩, fun X hX hc => ?_⟩
    have h0 : (0 : Int) ≤ X := hc (fun _ => false) (fun _ _ => rfl) rfl
    exact (Bd.word (b := 0) (by decide)).mono (by omega) (by omega)
  | j + 1, hj => by
    have hn5 := H.n5
    have hm3 := H.m3
    have ih := BF.tab H j (by omega)
    intro s hs q hq
    rw [bwdT_succ, bwdR_get _ _ _ _ s (Nat.le_refl _) hs, if_pos hs] at hq
    by_cases hn : n ≤ n + M - (j + 1)
    · rw [decide_eq_true hn, if_pos rfl] at hq
      obtain ⟨k1, k2⟩ := bside_up H (by omega) ih hs (fun _ => rfl) hq
      exact ⟨k1, fun X hX hc => (k2 X hX hc).mono (Int.le_refl _) (by omega)⟩
    · rw [decide_eq_false hn, if_neg (by simp)] at hq
      cases h0 : bside M ms (partL ms.length soft (n + M - (j + 1))) (bwdT M ms soft n j) s false with
      | none =>
        rw [h0, joinS_none1] at hq
        obtain ⟨k1, k2⟩ := bside_up H (by omega) ih hs (b := true) (fun q => absurd q hn) hq
        exact ⟨k1, fun X hX hc => (k2 X hX hc).mono (Int.le_refl _) (by omega)⟩
      | some x =>
        obtain ⟨k1, k2⟩ := bside_up H (by omega) ih hs (fun _ => rfl) h0
        rw [h0] at hq
        cases h1 : bside M ms (partL ms.length soft (n + M - (j + 1))) (bwdT M ms soft n j) s true with
        | none =>
          rw [h1] at hq
          cases hq
          exact ⟨k1, fun X hX hc => (k2 X hX hc).mono (Int.le_refl _) (by omega)⟩
        | some y =>
          rw [h1] at hq
          cases hq
          obtain ⟨-, m2⟩ := bside_up H (by omega) ih hs (b := true) (fun q => absurd q hn) h1
          refine ⟨k1, fun X hX hc => ?_⟩
          obtain ⟨c, hc1, hc2⟩ := k1
          have hl := hc c hc1 hc2
          have hl2 := metB_bd H (c := c) (s := s) (j := j + 1) hs (by omega)
          exact ((k2 X hX hc).join (m2 X hX hc) (by push_cast at *; omega)).mono (by omega) (by omega)
theorem bside_low (H : HW M n ms soft hv) {j : Nat} (hj : j < n + M) {a : List St} (ha : BF M n hv j a) {s : Nat} (hs : s < 2 ^ M) {b : Bool} {v : Int} (hv2 : -(1024 * (j : Int)) ≤ v) (h : PL M a (toS M s b) v) :
    ∃ q u, bside M ms (partL ms.length soft (n + M - (j + 1))) a s b = some q ∧ Bd (v + hv (n + M - (j + 1)) s b) u q := by
  have hn5 := H.n5
  have hm3 := H.m3
  obtain ⟨p, u, hp, hpb⟩ := h
  obtain ⟨-, h3⟩ := ha _ (toS_lt b) p hp
  have h4 := (h3 (1024 * (j : Int)) (Int.le_refl _) fun c _ _ => (metB_bd H (toS_lt b) (by omega)).2).both hpb
  obtain ⟨v1, v2⟩ := H.bd (n + M - (j + 1)) s b (by omega) hs
  have hle := h4.le
  unfold bside
  rw [hp]
  exact ⟨_, _, rfl, h4.add (H.val (n + M - (j + 1)) s b (by omega) hs) (by omega) (by omega)⟩
theorem BL.tab (H : HW M n ms soft hv) {c : Nat → Bool} (hc : Leg n c) : ∀ j, j ≤ n + M → ∀ s, s < 2 ^ M → stG M s c (n + M - j) j = 0 → PL M (bwdT M ms soft n j) s (met M hv s c (n + M - j) j)
  | 0, _, s, _, h => by
    have h : s = 0 := h
    subst h
    refine ⟨some 0, 0, ?_, Bd.word (b := 0) (by decide)⟩
    show (oneR (2 ^ M)).getD 0 none = some (some 0)
    have : 0 < 2 ^ M := Nat.pow_pos (by decide)
    simp [oneR, List.getD, this]
  | j + 1, hj, s, hs, h => by
    have hn5 := H.n5
    have hm3 := H.m3
    have hpl : n + M - j = n + M - (j + 1) + 1 := by omega
    have htab := BF.tab H j (by omega)
    rw [stG_front] at h
    rw [met_front]
    have ih := BL.tab H hc j (by omega) (toS M s (c (n + M - (j + 1)))) (toS_lt _) (by rw [hpl]; exact h)
    rw [hpl] at ih
    have hm := metB_bd H (c := c) (s := toS M s (c (n + M - (j + 1)))) (j := j) (toS_lt _) (by omega)
    rw [hpl] at hm
    obtain ⟨q, u, hq, hqb⟩ := bside_low H (by omega) htab hs hm.1 ih
    rw [Int.add_comm]
    unfold PL
    rw [bwdT_succ, bwdR_get _ _ _ _ s (Nat.le_refl _) hs, if_pos hs]
    by_cases hn : n ≤ n + M - (j + 1)
    · rw [decide_eq_true hn, if_pos rfl]
      rw [hc _ hn] at hq hqb
      rw [hc _ hn]
      exact ⟨q, u, hq, hqb⟩
    · rw [decide_eq_false hn, if_neg (by simp)]
      have up : ∀ b x, bside M ms (partL ms.length soft (n + M - (j + 1))) (bwdT M ms soft n j) s b = some x → Bd (-(1024 * ((j + 1 : Nat) : Int))) (1024 * ((j + 1 : Nat) : Int) + 45 * ((j - M : Nat) : Int)) x := fun b x hx =>
        (bside_up H (by omega) htab hs (b := b) (fun q => absurd q hn) hx).2 _ (Int.le_refl _) fun c _ _ => (metB_bd H hs (by omega)).2
      cases hcb : c (n + M - (j + 1)) with
      | false =>
        rw [hcb] at hq hqb
        rw [hq]
        cases h1 : bside M ms (partL ms.length soft (n + M - (j + 1))) (bwdT M ms soft n j) s true with
        | none => exact ⟨q, u, rfl, hqb⟩
        | some y => exact ⟨_, _, rfl, (((up _ _ hq).both hqb).join (up _ _ h1) (by push_cast; omega)).mono (Int.le_max_left _ _) (Int.le_refl _)⟩
      | true =>
        rw [hcb] at hq hqb
        rw [hq]
        cases h0 : bside M ms (partL ms.length soft (n + M - (j + 1))) (bwdT M ms soft n j) s false with
        | none => exact ⟨q, u, by rw [joinS_none1], hqb⟩
        | some x => exact ⟨_, _, rfl, ((up _ _ h0).join ((up _ _ hq).both hqb) (by push_cast; omega)).mono (Int.le_max_right _ _) (Int.le_refl _)⟩

end Go.Proofs.Ytopeidmafalklaa
