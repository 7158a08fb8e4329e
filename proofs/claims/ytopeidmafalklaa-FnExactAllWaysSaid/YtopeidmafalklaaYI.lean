/-
  Plain: rows of tables of logarithms; what both functions return.
  Conditions: none.
-/
import Derived.Test.YtopeidmafalklaaYH
import Derived.Test.YtopeidmafalklaaWG
namespace Go.Proofs.Ytopeidmafalklaa
open Go.RowKit Go.Shelf

def rV (S g : Nat) : Value := .slice (some ⟨g, 0, none⟩) S S
theorem infoSumS : (Try.prog.info? 68).map (fun i => (i.zero, i.size, i.bytes)) = some (some (.slice none 0 0), 1, 24) := by kernel_rfl
theorem infoLikelyS : (Try.prog.info? 84).map (fun i => (i.zero, i.size, i.bytes)) = some (some (.slice none 0 0), 1, 24) := by kernel_rfl
theorem infoMoveS : (Try.prog.info? 82).map (fun i => (i.zero, i.size, i.bytes)) = some (some (.slice none 0 0), 1, 24) := by kernel_rfl
/-- a row of the call's own of tables, each in a block of the call's own -/
def AR (e st : TypeId) (base S : Nat) (F : Nat → List St) (W : World) (v : Value) (bs : List Nat) : Prop :=
  Ow W base st v (bs.map (rV S)) ∧ ∀ i, i < bs.length → base ≤ bs.getD i 0 ∧ SRow e W (bs.getD i 0) S (F i)
theorem AR.below {e st : TypeId} {base S : Nat} {F : Nat → List St} {W W' : World} {v : Value} {bs : List Nat} (h : AR e st base S F W v bs) (hb : Below W.heap.size W W') : AR e st base S F W' v bs :=
  ⟨own_below h.1 hb (Nat.le_refl _), fun i hi => ⟨(h.2 i hi).1, (h.2 i hi).2.below hb (h.2 i hi).2.lt⟩⟩
theorem AR.drewN {e st : TypeId} {base S : Nat} {F : Nat → List St} {W : World} {v : Value} {bs : List Nat} (h : AR e st base S F W v bs) (k : Nat) : AR e st base S F (W.drewN k) v bs := h
theorem AR.get {e st : TypeId} {base S : Nat} {F : Nat → List St} {W : World} {v : Value} {bs : List Nat} (h : AR e st base S F W v bs) {i : Nat} (hi : i < bs.length) :
    ∃ g c, v = .slice (some ⟨g, 0, none⟩) bs.length c ∧ base ≤ g ∧ g < W.heap.size ∧ W.cell? ⟨g, i, none⟩ = some (rV S (bs.getD i 0)) := by
  obtain ⟨A, cap, hv, ho⟩ := h.1.opn
  obtain ⟨g, cap', hv2, hbg, hgs⟩ := ho.form (by omega)
  have hc := (hv2 ▸ ho).cellAt i (by omega)
  refine ⟨g, cap', hv.trans hv2, hbg, hgs, hc.trans ?_⟩
  rw [List.getElem?_map]
  simp [List.getD, hi]
theorem AR.step {e st : TypeId} (hne : e ≠ st) {base S : Nat} {F : Nat → List St} {wA wB w1 : World} {v v' : Value} {bs : List Nat} {nb : Nat} (h : AR e st base S F wA v bs) (hbA : Below wA.heap.size wA wB) (hnb : base ≤ nb) (hT : SRow e wB nb S (F bs.length)) (o : Go.Obj)
    (hg : (wB.alloc o).grownBy w1 v.ownBlock) (ho : Ow w1 base st v' ((bs.map (rV S)) ++ [rV S nb])) : AR e st base S F w1 v' (bs ++ [nb]) := by
  have hB := h.below hbA
  have hC := hB.1.alloc o
  refine ⟨by rw [List.map_append]; exact ho, fun i hi => ?_⟩
  rw [List.length_append, List.length_singleton] at hi
  by_cases q : i < bs.length
  · have e1 : (bs ++ [nb]).getD i 0 = bs.getD i 0 := by simp only [List.getD, List.getElem?_append_left q]
    rw [e1]
    exact ⟨(hB.2 i q).1, ((hB.2 i q).2.alloc o).kept hC hne hg⟩
  · have e0 : i = bs.length := by omega
    subst e0
    have e1 : (bs ++ [nb]).getD bs.length 0 = nb := by simp [List.getD]
    rw [e1]
    exact ⟨hnb, (hT.alloc o).kept hC hne hg⟩

theorem own_set_other {w : World} {base g n c : Nat} {e : TypeId} {xs : List Value} (h : w.ownsRow base e 1 (.slice (some ⟨g, 0, none⟩) n c) n xs) {p : Addr} (hp : p.block ≠ g) (u : Value) : (w.setCell p u).ownsRow base e 1 (.slice (some ⟨g, 0, none⟩) n c) n xs := by
  obtain ⟨h1, h2⟩ := h
  refine ⟨h1, ?_⟩
  rcases h2 with h2 | ⟨g', cap, cur, hv, hg, hh, r⟩
  · exact .inl h2
  · injection hv with hv hn hc
    injection hv with hv
    injection hv with hv
    subst hv
    exact .inr ⟨g, cap, cur, by rw [hc], hg, by rw [Below.heap_setCell _ _ _ _ (by omega)]; exact hh, r⟩
/-- a row of tables that is filled from its end -/
def brow (S N t : Nat) (cs : List Nat) : List Value := (List.range (N + 1)).map fun i => if t ≤ i then rV S (cs.getD (N - i) 0) else .slice none 0 0
theorem brow_len (S N t : Nat) (cs : List Nat) : (brow S N t cs).length = N + 1 := by simp [brow]
theorem brow_none (S N : Nat) : brow S N (N + 1) [] = List.replicate (N + 1) (.slice none 0 0) := by
  unfold brow
  refine List.ext_getElem (by simp) fun i h1 h2 => ?_
  simp only [List.length_map, List.length_range] at h1
  rw [List.getElem_map, List.getElem_range, if_neg (by omega), List.getElem_replicate]
theorem brow_get {S N t i : Nat} {cs : List Nat} (h : t ≤ i) (hi : i ≤ N) : (brow S N t cs)[i]'(by rw [brow_len]; omega) = rV S (cs.getD (N - i) 0) := by
  unfold brow
  rw [List.getElem_map, List.getElem_range, if_pos h]
theorem brow_at {S N t i : Nat} {cs : List Nat} (hi : i ≤ N) : (brow S N t cs)[i]? = some (if t ≤ i then rV S (cs.getD (N - i) 0) else .slice none 0 0) := by
  unfold brow
  rw [List.getElem?_map, List.getElem?_range (by omega)]
  rfl
theorem brow_out {S N t i : Nat} {cs : List Nat} (hi : ¬ i ≤ N) : (brow S N t cs)[i]? = none := List.getElem?_eq_none (by rw [brow_len]; omega)
theorem brow_set {S N t nb : Nat} {cs : List Nat} (ht : t ≤ N) (hc : cs.length = N - t) : (brow S N (t + 1) cs).set t (rV S nb) = brow S N t (cs ++ [nb]) := by
  refine List.ext_getElem? fun i => ?_
  rw [List.getElem?_set]
  by_cases hi : i ≤ N
  · rw [brow_at hi, brow_at hi, brow_len]
    by_cases e : t = i
    · subst e
      rw [if_pos rfl, if_pos (by omega), if_pos (Nat.le_refl _)]
      congr 2
      rw [← hc]
      simp [List.getD]
    · rw [if_neg e]
      by_cases q : t ≤ i
      · rw [if_pos (by omega), if_pos q]
        congr 2
        have hl : N - i < cs.length := by omega
        simp only [List.getD, List.getElem?_append_left hl]
      · rw [if_neg (by omega), if_neg q]
  · rw [brow_out hi, brow_out hi, if_neg (by omega)]
/-- the tables backward, all from a place on -/
def BRel (e st : TypeId) (wM : World) (S N : Nat) (F : Nat → List St) (t : Nat) (wr : World) : Prop :=
  ∃ cs : List Nat, cs.length = N + 1 - t ∧ Row wr wM.heap.size st (brow S N t cs) ∧ (∀ j, j < cs.length → wM.heap.size < cs.getD j 0 ∧ SRow e wr (cs.getD j 0) S (F j)) ∧ Below wM.heap.size wM wr
theorem BRel.below {e st : TypeId} {wM : World} {S N : Nat} {F : Nat → List St} {t : Nat} {W W' : World} (h : BRel e st wM S N F t W) (hb : Below W.heap.size W W') (hM : wM.heap.size ≤ W.heap.size) : BRel e st wM S N F t W' := by
  obtain ⟨cs, h1, h2, h3, h4⟩ := h
  exact ⟨cs, h1, h2.below hb h2.lt, fun j hj => ⟨(h3 j hj).1, (h3 j hj).2.below hb (h3 j hj).2.lt⟩, h4.trans (hb.mono hM)⟩

section
variable {e st : TypeId} {wM wB : World} {S N t : Nat} {F : Nat → List St}
theorem BRel.start (h : BRel e st wM S N F (t + 1) wB) (ht : t + 1 ≤ N) :
    wM.heap.size < wB.heap.size ∧ (∃ u, wB.cell? ⟨wM.heap.size, t, none⟩ = some u) ∧ wB.frozen? ⟨wM.heap.size, t, none⟩ = false ∧ ∃ b1, wM.heap.size < b1 ∧ b1 < wB.heap.size ∧ ∀ wX, wX = (wB.setCell ⟨wM.heap.size, t, none⟩ (rV S wB.heap.size)).alloc (.cells (madeCells #[Value.bool false, .float .f32 0] (S * 2)) e) →
      wX.cell? ⟨wM.heap.size, t, none⟩ = some (rV S wB.heap.size) ∧ wX.cell? ⟨wM.heap.size, t + 1, none⟩ = some (rV S b1) ∧ SRow e wX b1 S (F (N - (t + 1))) ∧ SRow e wX wB.heap.size S (noneR S) ∧ wB.heap.size + 1 ≤ wX.heap.size ∧
      ∀ wr, Below wB.heap.size wX wr → SRow e wr wB.heap.size S (F (N - t)) → BRel e st wM S N F t wr := by
  obtain ⟨cs, h1, h2, h3, h4⟩ := h
  have hl : cs.length = N - t := by omega
  have hz := h4.size
  have hbz := h2.lt
  have hc0 : N - (t + 1) < cs.length := by omega
  obtain ⟨hb1, hs1⟩ := h3 (N - (t + 1)) hc0
  refine ⟨hbz, ⟨_, h2.get (by rw [brow_len]; omega)⟩, h2.frz t, cs.getD (N - (t + 1)) 0, hb1, hs1.lt, fun wX eX => ?_⟩
  have rX : Row wX wM.heap.size st (brow S N t (cs ++ [wB.heap.size])) := by
    have h := (h2.put t (rV S wB.heap.size)).alloc (.cells (madeCells #[Value.bool false, .float .f32 0] (S * 2)) e)
    rw [brow_set (by omega) hl] at h
    rw [eX]
    exact h
  have hzX : wX.heap.size = wB.heap.size + 1 := by rw [eX]; simp
  have hkeep : ∀ j, j < cs.length → SRow e wX (cs.getD j 0) S (F j) := fun j hj => by
    rw [eX]
    exact ((h3 j hj).2.far (by have := (h3 j hj).1; omega) _ _).alloc _
  have sX : SRow e wX wB.heap.size S (noneR S) := by
    have h := SRow.new e (wB.setCell ⟨wM.heap.size, t, none⟩ (rV S wB.heap.size)) S
    rw [show (wB.setCell ⟨wM.heap.size, t, none⟩ (rV S wB.heap.size)).heap.size = wB.heap.size by simp] at h
    rw [eX]
    exact h
  have bX : Below wM.heap.size wM wX := by
    rw [eX]
    exact (Below.setCell (p := ⟨wM.heap.size, t, none⟩) h4 (Nat.le_refl _) _).alloc (by simp; omega) _
  refine ⟨?_, ?_, hkeep _ hc0, sX, by omega, fun wr hb hS => ?_⟩
  · have h := rX.get (k := t) (by rw [brow_len]; omega)
    rw [brow_get (Nat.le_refl _) (by omega), ← hl] at h
    rw [h]
    simp [List.getD]
  · have h := rX.get (k := t + 1) (by rw [brow_len]; omega)
    rw [brow_get (by omega) (by omega)] at h
    rw [h]
    simp only [List.getD, List.getElem?_append_left hc0]
  · refine ⟨cs ++ [wB.heap.size], by rw [List.length_append, List.length_singleton]; omega, rX.below hb hbz, fun j hj => ?_, bX.trans (hb.mono (by omega))⟩
    rw [List.length_append, List.length_singleton] at hj
    by_cases q : j < cs.length
    · have e1 : (cs ++ [wB.heap.size]).getD j 0 = cs.getD j 0 := by simp only [List.getD, List.getElem?_append_left q]
      rw [e1]
      exact ⟨(h3 j q).1, (hkeep j q).below hb (h3 j q).2.lt⟩
    · obtain rfl : j = cs.length := by omega
      have e1 : (cs ++ [wB.heap.size]).getD cs.length 0 = wB.heap.size := by simp [List.getD]
      rw [e1, hl]
      exact ⟨hbz, hS⟩
end

/-- both sums within a state: behind so many bits -/
def sumJ (M : Nat) (ms : List Int) (part : List Nat) (a b : List St) (s : Nat) : Nat → List St
  | 0 => [sumR M ms part a b false s, sumR M ms part a b true s]
  | 1 => [sumR M ms part a b false (s + 1), sumR M ms part a b true s]
  | _ + 2 => [sumR M ms part a b false (s + 1), sumR M ms part a b true (s + 1)]
theorem sumJ_step {M : Nat} {ms : List Int} {part : List Nat} {a b : List St} {s : Nat} (c : Bool) : sumJ M ms part a b s (bN c + 1) = (sumJ M ms part a b s (bN c)).set (bN c) (sumE M ms part a b s c ((sumJ M ms part a b s (bN c)).getD (bN c) none)) := by cases c <;> rfl
theorem sumX_none1 {y : St} {h : Option Nat} {u : St} : sumX none y h u = u := by cases y <;> rfl
theorem sumX_none2 {x : St} {h : Option Nat} {u : St} : sumX x none h u = u := by cases x <;> rfl
theorem sumJ_same {M : Nat} {ms : List Int} {part : List Nat} {a b : List St} {s : Nat} {c : Bool} (h : b.getD (toS M s c) none = none) : sumJ M ms part a b s (bN c + 1) = sumJ M ms part a b s (bN c) := by
  rw [sumJ_step]
  unfold sumE
  rw [h, sumX_none2, set_same]
theorem sumJ_skip {M : Nat} {ms : List Int} {part : List Nat} {a b : List St} {s : Nat} (h : a.getD s none = none) : sumJ M ms part a b (s + 1) 0 = sumJ M ms part a b s 0 := by
  have e : ∀ c, sumR M ms part a b c (s + 1) = sumR M ms part a b c s := fun c => by
    show sumE M ms part a b s c _ = _
    unfold sumE
    rw [h, sumX_none1]
  unfold sumJ
  rw [e, e]
theorem own_lower {w : World} {base base' size n : Nat} {e : TypeId} {v : Value} {xs : List Value} (h : w.ownsRow base e size v n xs) (hb : base' ≤ base) : w.ownsRow base' e size v n xs := by
  obtain ⟨h1, h2⟩ := h
  refine ⟨h1, ?_⟩
  rcases h2 with h2 | ⟨g, cap, cur, hv, hg, r⟩
  · exact .inl h2
  · exact .inr ⟨g, cap, cur, hv, Nat.le_trans hb hg, r⟩
theorem own_dallocY {w : World} {n base size k : Nat} {e : TypeId} {v : Value} {xs : List Value} (h : w.ownsRow base e size v k xs) (o : Go.Obj) : ((w.drewN n).alloc o).ownsRow base e size v k xs := World.ownsRow.alloc (w := w.drewN n) h o
theorem outT_step {M : Nat} {ms : List Int} {soft : List Nat} {n t : Nat} {l : List (Option Nat)} (h : outT M ms soft n t = some l) {x y : Option Nat} (hx : sumT M ms soft n t false = some x) (hy : sumT M ms soft n t true = some y) : outT M ms soft n (t + 1) = some (l ++ [fop .sub .f32 y x]) := by
  show (outT M ms soft n t).bind _ = _
  rw [h, hx, hy]
  rfl
theorem outT_stop {M : Nat} {ms : List Int} {soft : List Nat} {n t : Nat} (h : sumT M ms soft n t false = none ∨ sumT M ms soft n t true = none) : outT M ms soft n (t + 1) = none := by
  show (outT M ms soft n t).bind _ = _
  cases outT M ms soft n t with
  | none => rfl
  | some l =>
    show (outS _ _).map _ = none
    rcases h with h | h
    · rw [h]; rfl
    · rw [h]; cases sumT M ms soft n t false <;> rfl

/-! what is returned -/
def allOk (m : Int) (ms : List Int) (xs : List Nat) : Bool := sentOk m ms xs && match outT m.toNat ms xs (sentN m ms xs).toNat (sentN m ms xs).toNat with
  | some l => l.all finB
  | none => false
def allL (m : Int) (ms : List Int) (xs : List Nat) : List (Option Nat) := if allOk m ms xs then (outT m.toNat ms xs (sentN m ms xs).toNat (sentN m ms xs).toNat).getD [] else []
def AllPost (w : World) (m : Int) (ms : List Int) (xs : List Nat) (e : Ending) (w' : World) : Prop :=
  ∃ (v : Value) (ys : List Nat), e = .returned (.tuple #[v, .bool (allOk m ms xs)]) ∧ ys.map (fl .f32) = allL m ms xs ∧ Ow w' w.heap.size 46 v (ys.map (Value.float .f32)) ∧ Below w.heap.size w w'
theorem all_fail {w w' : World} {m : Int} {ms : List Int} {xs : List Nat} (h : allOk m ms xs = false) (hb : Below w.heap.size w w') : AllPost w m ms xs (.returned (.tuple #[.slice none 0 0, .bool false])) w' :=
  ⟨_, [], by rw [h], by unfold allL; rw [h]; rfl, ⟨rfl, .inl ⟨rfl, rfl⟩⟩, hb⟩
theorem allw_not {m : Int} {ms : List Int} {xs : List Nat} (h : sentOk m ms xs = false) : allOk m ms xs = false := by unfold allOk; rw [h]; rfl
theorem all_none {M n : Nat} {ms : List Int} {xs : List Nat} (hsn : sentN (M : Int) ms xs = (n : Int)) (h : outT M ms xs n n = none) : allOk (M : Int) ms xs = false := by
  unfold allOk
  rw [hsn, Int.toNat_natCast, Int.toNat_natCast, h, Bool.and_false]
theorem all_some {M n : Nat} {ms : List Int} {xs : List Nat} {l : List (Option Nat)} (hs : sentOk (M : Int) ms xs = true) (hsn : sentN (M : Int) ms xs = (n : Int)) (h : outT M ms xs n n = some l) : allOk (M : Int) ms xs = l.all finB ∧ (l.all finB = true → allL (M : Int) ms xs = l) := by
  have e : allOk (M : Int) ms xs = l.all finB := by
    unfold allOk
    rw [hs, hsn, Int.toNat_natCast, Int.toNat_natCast, h, Bool.true_and]
  refine ⟨e, fun hf => ?_⟩
  unfold allL
  rw [e, if_pos hf, hsn, Int.toNat_natCast, Int.toNat_natCast, h]
  rfl
/-- where a bit's sum is not there, all is not there -/
theorem outT_none {M : Nat} {ms : List Int} {soft : List Nat} {n t : Nat} (h : outT M ms soft n t = none) : ∀ j, outT M ms soft n (t + j) = none
  | 0 => h
  | j + 1 => by
    show (outT M ms soft n (t + j)).bind _ = none
    rw [outT_none h j]
    rfl

end Go.Proofs.Ytopeidmafalklaa
