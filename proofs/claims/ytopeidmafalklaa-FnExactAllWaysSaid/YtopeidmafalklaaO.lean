/-
  From a law's walk to its row: arguments opened, the row shut.
  Conditions: the walk returns true and leaves all that was there as it was.
-/
import Derived.Test.YtopeidmafalklaaM
import Derived.ProofKit
import Derived.OpenShut
import Derived.Deep.Slices
import Derived.Lib.SmallJoins
namespace Go.Proofs.Ytopeidmafalklaa
open Go.ChangeShapes Go.WideShapes Go.ChangeAt Go.RowKit

theorem Try_own : ownKnob Try.prog.godebug = none := by kernel_rfl
theorem Try_laid : laidOutB Try.prog = true := by kernel_rfl

section
variable {H : Type} {enc : TypeId × Value → H} {P : Program}

theorem post_of_below {f : Func} {s : ChangeSpec} {apart fresh handsOn again : Bool} {W W' : World} {args : Array Value} {v : Value} {ds gs : List (DataW H)} {before pa pv : List MemPlace}
    (hW : DataW.Whole enc P f.params.toList s.vars apart W args.toList ds gs before)
    (hres : ∀ (b : Nat) (sp : Nat → Bool) (hd : Bool), DataW.TrodAll enc P W' b sp hd f.resultTypes.toList (v.resultList f.resultTypes.size) (s.fn H (ds ++ gs)).results [])
    (hargs : ∀ sp : Nat → Bool, (∀ p ∈ before, sp p.block = true) → DataW.TrodAll enc P W' 0 sp true f.params.toList args.toList (s.fn H (ds ++ gs)).args pa)
    (hvars : ∀ sp : Nat → Bool, (∀ p ∈ before, sp p.block = true) → DataW.TrodVars enc P W' sp s.vars (s.fn H (ds ++ gs)).vars pv)
    (hps : before = pa ++ pv) (hb : Below W.heap.size W W')
    (hok : ∀ (j : Nat) (t : TypeId) (r : Value), f.resultTypes[j]? = some t → (v.resultList f.resultTypes.size)[j]? = some r → Value.okWide P W' .any 0 t r) :
    s.post enc P f apart fresh handsOn again W args v W' := by
  have hlt : ∀ p ∈ before, p.block < W.heap.size := fun p hp => hW.lt p hp
  have hold : ∀ p ∈ before, (fun b => decide (b < W.heap.size)) p.block = true := fun p hp => by simpa using hlt p hp
  refine ⟨ds, gs, before, [], pa, pv, hW, hres _ _ _, hargs _ hold, hvars _ hold, World.keptBut_mono (fun p hp => ⟨hp, ?_⟩) (hb.frame (· ∈ before)), fun _ => ?_⟩
  · rw [hps, List.mem_append] at hp
    exact Or.inr hp
  · obtain ⟨_, _, _, _, _, hz, hn⟩ := hW
    refine ⟨hok, _, _, ([] ++ pa) ++ pv, ⟨[] ++ pa, pv, trodAll_append (hargs _ (fun _ _ => rfl)) (hres _ _ _), hvars _ (fun _ _ => rfl), rfl, ?_, ?_⟩, ?_⟩
    · intro b off hp
      have hin : MemPlace.cell b off ∈ before := by rw [hps]; simpa using hp
      rw [hb.frozen (hlt _ hin)]
      exact hz b off hin
    · intro ha
      have := hn ha
      rw [hps] at this
      simpa using this
    · intro p hp _
      rw [hps]
      simpa using hp

theorem trodAll_stays (hl : laidOutB P = true) {W W' : World} {sp' : Nat → Bool} : ∀ (ts : List TypeId) (vs : List Value) (ds : List (DataW H)) (ps : List MemPlace),
    ts.all (fun t => P.readableRec t && decide (t < P.types.size)) = true → DataW.TrodAll enc P W 0 (fun _ => true) true ts vs ds ps → (∀ p ∈ ps, W.sameAt W' p) → (∀ p ∈ ps, sp' p.block = true) → DataW.TrodAll enc P W' 0 sp' true ts vs ds ps
  | [], vs, ds, ps, _, h, _, _ => by
    obtain ⟨rfl, rfl, rfl⟩ := trodAll_nil h
    exact trodAll_mk0
  | t :: ts, vs, ds, ps, hr, h, hs, hp => by
    simp only [List.all_cons, Bool.and_eq_true, decide_eq_true_eq] at hr
    obtain ⟨v, vs', d, ds', p, q, rfl, rfl, rfl, h0, r0⟩ := trodAll_cons h
    exact trodAll_cons_mk (WideElems.Trod_stays hl hr.1.1 hr.1.2 h0 (fun x hx => hs x (by simp [hx])) (fun x hx => hp x (by simp [hx])))
      (trodAll_stays hl ts vs' ds' q hr.2 r0 (fun x hx => hs x (by simp [hx])) (fun x hx => hp x (by simp [hx])))

/-- THE LAW's LAST STEP: from 'it returns true, and what was there is as it was' to the row's own words -/
theorem law_end (hl : laidOutB P = true) {f : Func} {fid : FuncId} {s : ChangeSpec} {tb : TypeId} {W : World} {args : Array Value} {ds : List (DataW H)} {before : List MemPlace}
    (hr : f.params.toList.all (fun t => P.readableRec t && decide (t < P.types.size)) = true) (hrt : f.resultTypes = #[tb]) (htb : P.underlying tb = some .bool) (hvars : s.vars = [])
    (hfn : s.fn H (ds ++ []) = { results := [.lit (.bool true)], args := ds }) (hW : DataW.Whole enc P f.params.toList s.vars false W args.toList ds [] before)
    (hc : Calls P fid args W fun e W' => e = .returned (.bool true) ∧ Below W.heap.size W W') :
    Calls P fid args W fun e W' => ∃ v, e = .returned v ∧ s.post enc P f false true false false W args v W' := by
  refine hc.mono fun e W' ⟨he, hb⟩ => ⟨_, he, ?_⟩
  have hlt : ∀ p ∈ before, p.block < W.heap.size := fun p hp => hW.lt p hp
  have hW0 := hW
  obtain ⟨pa, pv, hA, hV, hps, _, _⟩ := hW0
  have hpv : pv = [] := by
    rw [hvars] at hV
    exact (trodVars_none hV).2
  refine post_of_below (pa := pa) (pv := []) hW ?_ ?_ ?_ (by rw [hps, hpv]) hb ?_
  · intro b sp hd
    rw [hfn, hrt]
    exact trodAll_mk1 (shut_bool htb true)
  · intro sp hsp
    rw [hfn]
    have hin : ∀ p ∈ pa, p ∈ before := fun p hp => by rw [hps]; simp [hp]
    exact trodAll_stays hl _ _ _ _ hr hA (fun p hp => hb.same (hlt p (hin p hp))) (fun p hp => hsp p (hin p hp))
  · intro sp _
    rw [hfn, hvars]
    exact rfl
  · rw [hrt]
    exact ok_one (f := { f with resultTypes := #[tb] }) (by rfl) rfl (okWide_bool_mk htb true)

/-- a slice of one-cell elements that are all of one make, opened -/
theorem open_sl {α : Type} [Inhabited α] (f : α → Value) (good : α → Prop) {t e : TypeId} (ht : P.underlying t = some (.slice e)) (hc : P.cellsOf e = 1) {w : World}
    (elem : ∀ (n : Nat) (v : Value) (x : DataW H × List MemPlace), DataW.trod enc P w 0 (fun _ => true) true n e [v] = some x → ∃ a, v = f a ∧ good a)
    {r : Reach} {b0 : Nat} {v : Value} {d : DataW H} {p : List MemPlace} (hval : Value.okWide P w r b0 t v) (h : DataW.Trod enc P w 0 (fun _ => true) true t v d p) :
    ∃ (A : Option Addr) (n cap : Nat) (xs : List α), v = .slice A n cap ∧ xs.length = n ∧ n ≤ cap ∧ cap ≤ maxLen ∧ (∀ a ∈ xs, good a) ∧ Sl w w.heap.size A (xs.map f) := by
  obtain ⟨a0, len, cap, rfl⟩ := okWide_slice ht hval
  obtain ⟨fuel, hf⟩ := h
  rcases Deep.open_slice1 ht hc hf with ⟨hcs, _⟩ | ⟨a, len', cap', m, n, V, D, Pl, hcs, _, hl, hm, hmm, _, hx⟩
  · simp [Value.cells] at hcs
    obtain ⟨rfl, rfl, rfl⟩ := hcs
    exact ⟨none, 0, 0, [], rfl, rfl, Nat.le_refl _, by simp [maxLen], by simp, .inl rfl⟩
  · simp [Value.cells] at hcs
    obtain ⟨rfl, rfl, rfl⟩ := hcs
    simp only [if_true] at hmm
    obtain ⟨g, hg⟩ := Deep.choose_lt (n := len) (p := fun i a => V i = f a ∧ good a) (fun i hi => elem n _ _ (hx i (by omega)).2)
    refine ⟨some a, len, cap, (List.range len).map g, rfl, by simp, hl, hm, ?_, ?_⟩
    · intro y hy
      obtain ⟨i, hi, rfl⟩ := List.mem_map.1 hy
      exact (hg i (by simpa using hi)).2
    · by_cases h0 : len = 0
      · subst h0; exact .inl rfl
      · obtain ⟨b, off, spot⟩ := a
        have hc0 := (hx 0 (by omega)).1
        have hspot : spot = none := by simpa [Addr.add] using World.cell?_spot hc0
        subst hspot
        have hlt := World.block_lt_of_cell? w _ hc0
        refine .inr ⟨b, off, rfl, by rwa [add_plain] at hlt, fun j u hu => ?_⟩
        have hj : j < len := by simpa using (List.getElem?_eq_some_iff.1 hu).1
        have h1 := (hx j (by omega)).1
        rw [add_plain] at h1
        rw [h1, (hg j hj).1, ← hu]
        simp [hj]

/-- a slice of one-cell elements that are all of one make, opened -/
theorem open_sl_trod {α : Type} [Inhabited α] (f : α → Value) (good : α → Prop) {t e : TypeId} (ht : P.underlying t = some (.slice e)) (hc : P.cellsOf e = 1) {w : World}
    (elem : ∀ (n : Nat) (v : Value) (x : DataW H × List MemPlace), DataW.trod enc P w 0 (fun _ => true) true n e [v] = some x → ∃ a, v = f a ∧ good a)
    {v : Value} {fuel : Nat} {y : DataW H × List MemPlace} (hf : DataW.trod enc P w 0 (fun _ => true) true fuel t [v] = some y) :
    ∃ (A : Option Addr) (n cap : Nat) (xs : List α), v = .slice A n cap ∧ xs.length = n ∧ n ≤ cap ∧ cap ≤ maxLen ∧ (∀ a ∈ xs, good a) ∧ Sl w w.heap.size A (xs.map f) := by
  obtain ⟨a0, len, cap, hv⟩ := Joins.slice_form ht hf
  obtain rfl : v = .slice a0 len cap := by simpa using hv
  rcases Deep.open_slice1 ht hc hf with ⟨hcs, _⟩ | ⟨a, len', cap', m, n, V, D, Pl, hcs, _, hl, hm, hmm, _, hx⟩
  · simp at hcs
    obtain ⟨rfl, rfl, rfl⟩ := hcs
    exact ⟨none, 0, 0, [], rfl, rfl, Nat.le_refl _, by simp [maxLen], by simp, .inl rfl⟩
  · simp at hcs
    obtain ⟨rfl, rfl, rfl⟩ := hcs
    simp only [if_true] at hmm
    obtain ⟨g, hg⟩ := Deep.choose_lt (n := len) (p := fun i a => V i = f a ∧ good a) (fun i hi => elem n _ _ (hx i (by omega)).2)
    refine ⟨some a, len, cap, (List.range len).map g, rfl, by simp, hl, hm, ?_, ?_⟩
    · intro y hy
      obtain ⟨i, hi, rfl⟩ := List.mem_map.1 hy
      exact (hg i (by simpa using hi)).2
    · by_cases h0 : len = 0
      · subst h0; exact .inl rfl
      · obtain ⟨b, off, spot⟩ := a
        have hc0 := (hx 0 (by omega)).1
        have hspot : spot = none := by simpa [Addr.add] using World.cell?_spot hc0
        subst hspot
        have hlt := World.block_lt_of_cell? w _ hc0
        refine .inr ⟨b, off, rfl, by rwa [add_plain] at hlt, fun j u hu => ?_⟩
        have hj : j < len := by simpa using (List.getElem?_eq_some_iff.1 hu).1
        have h1 := (hx j (by omega)).1
        rw [add_plain] at h1
        rw [h1, (hg j hj).1, ← hu]
        simp [hj]

theorem elem_int {w : World} {e : TypeId} {k : IntKind} (he : P.underlying e = some (.int k)) : ∀ (n : Nat) (v : Value) (x : DataW H × List MemPlace), DataW.trod enc P w 0 (fun _ => true) true n e [v] = some x → ∃ a, v = .int k a ∧ (Lit.int k a).wf = true := by
  intro n v x h
  obtain ⟨m, hm, _, hw⟩ := DataW.trod_int he h
  exact ⟨m, by simpa using hm, hw⟩
theorem elem_bool {w : World} {e : TypeId} (he : P.underlying e = some .bool) : ∀ (n : Nat) (v : Value) (x : DataW H × List MemPlace), DataW.trod enc P w 0 (fun _ => true) true n e [v] = some x → ∃ a, v = .bool a ∧ True := by
  intro n v x h
  cases n with
  | zero => simp [DataW.trod] at h
  | succ n => cases v <;> simp [DataW.trod, he] at h; exact ⟨_, rfl, trivial⟩
theorem elem_float {w : World} {e : TypeId} {k : FloatKind} (he : P.underlying e = some (.float k)) : ∀ (n : Nat) (v : Value) (x : DataW H × List MemPlace), DataW.trod enc P w 0 (fun _ => true) true n e [v] = some x → ∃ a, v = .float k a ∧ (Lit.float k a).wf = true := by
  intro n v x h
  cases n with
  | zero => simp [DataW.trod] at h
  | succ n =>
    cases v <;> simp [DataW.trod, he] at h
    obtain ⟨⟨rfl, hw⟩, _⟩ := h
    exact ⟨_, rfl, hw⟩
end


theorem cells_i64 : Try.prog.cellsOf 2 = 1 := by kernel_rfl
set_option maxRecDepth 100000 in
theorem open_i64s {H : Type} {enc : TypeId × Value → H} {w : World} {r : Reach} {b0 : Nat} {v : Value} {d : DataW H} {p : List MemPlace} (hval : Value.okWide Try.prog w r b0 22 v) (h : DataW.Trod enc Try.prog w 0 (fun _ => true) true 22 v d p) :
    ∃ (A : Option Addr) (n cap : Nat) (xs : List Int), v = .slice A n cap ∧ xs.length = n ∧ n ≤ cap ∧ cap ≤ maxLen ∧ (∀ a ∈ xs, (Lit.int .i64 a).wf = true) ∧ Sl w w.heap.size A (xs.map (Value.int .i64)) := by
  have h1 := @open_sl H enc Try.prog Int _ (Value.int .i64) (fun a => (Lit.int .i64 a).wf = true) 22 2 Try.underlying22 cells_i64 w
  have h2 := @elem_int H enc Try.prog w 2 .i64 Try.underlying2
  have h3 := @h1 h2 r b0 v d p
  exact h3 hval h


theorem cells_bool : Try.prog.cellsOf 4 = 1 := by kernel_rfl
set_option maxRecDepth 100000 in
theorem open_bools {H : Type} {enc : TypeId × Value → H} {w : World} {r : Reach} {b0 : Nat} {v : Value} {d : DataW H} {p : List MemPlace} (hval : Value.okWide Try.prog w r b0 41 v) (h : DataW.Trod enc Try.prog w 0 (fun _ => true) true 41 v d p) :
    ∃ (A : Option Addr) (n cap : Nat) (xs : List Bool), v = .slice A n cap ∧ xs.length = n ∧ n ≤ cap ∧ cap ≤ maxLen ∧ (∀ a ∈ xs, True) ∧ Sl w w.heap.size A (xs.map Value.bool) := by
  have h1 := @open_sl H enc Try.prog Bool _ Value.bool (fun a => True) 41 4 Try.underlying41 cells_bool w
  have h2 := @elem_bool H enc Try.prog w 4 Try.underlying4
  have h3 := @h1 h2 r b0 v d p
  exact h3 hval h


theorem cells_f32 : Try.prog.cellsOf 46 = 1 := by kernel_rfl
set_option maxRecDepth 100000 in
theorem open_f32s {H : Type} {enc : TypeId × Value → H} {w : World} {r : Reach} {b0 : Nat} {v : Value} {d : DataW H} {p : List MemPlace} (hval : Value.okWide Try.prog w r b0 25 v) (h : DataW.Trod enc Try.prog w 0 (fun _ => true) true 25 v d p) :
    ∃ (A : Option Addr) (n cap : Nat) (xs : List Nat), v = .slice A n cap ∧ xs.length = n ∧ n ≤ cap ∧ cap ≤ maxLen ∧ (∀ a ∈ xs, (Lit.float .f32 a).wf = true) ∧ Sl w w.heap.size A (xs.map (Value.float .f32)) := by
  have h1 := @open_sl H enc Try.prog Nat _ (Value.float .f32) (fun a => (Lit.float .f32 a).wf = true) 25 46 Try.underlying25 cells_f32 w
  have h2 := @elem_float H enc Try.prog w 46 .f32 Try.underlying46
  have h3 := @h1 h2 r b0 v d p
  exact h3 hval h


set_option maxRecDepth 100000 in
theorem open_i64s_trod {H : Type} {enc : TypeId × Value → H} {w : World} {v : Value} {fuel : Nat} {y : DataW H × List MemPlace} (h : DataW.trod enc Try.prog w 0 (fun _ => true) true fuel 22 [v] = some y) :
    ∃ (A : Option Addr) (n cap : Nat) (xs : List Int), v = .slice A n cap ∧ xs.length = n ∧ n ≤ cap ∧ cap ≤ maxLen ∧ (∀ a ∈ xs, (Lit.int .i64 a).wf = true) ∧ Sl w w.heap.size A (xs.map (Value.int .i64)) := by
  have h1 := @open_sl_trod H enc Try.prog Int _ (Value.int .i64) (fun a => (Lit.int .i64 a).wf = true) 22 2 Try.underlying22 cells_i64 w
  have h2 := @elem_int H enc Try.prog w 2 .i64 Try.underlying2
  have h3 := @h1 h2 v fuel y
  exact h3 h

set_option maxRecDepth 100000 in
theorem open_Coder {H : Type} {enc : TypeId × Value → H} {w : World} {r : Reach} {b0 : Nat} {v : Value} {d : DataW H} {p : List MemPlace} (hval : Value.okWide Try.prog w r b0 24 v) (h : DataW.Trod enc Try.prog w 0 (fun _ => true) true 24 v d p) :
    ∃ (m : Int) (A : Option Addr) (n cap : Nat) (xs : List Int), v = .agg #[.int .i64 m, .slice A n cap] ∧ xs.length = n ∧ n ≤ maxLen ∧ Sl w w.heap.size A (xs.map (Value.int .i64)) := by
  obtain ⟨v0, v1, y0, y1, n, rfl, _, _, h0, h1⟩ := Joins.open_agg2 Try.underlying24 (by kernel_rfl) (by kernel_rfl) hval h
  obtain ⟨m, hm, _, _⟩ := DataW.trod_int Try.underlying2 h0
  obtain ⟨A, n, cap, xs, rfl, hl, hc, hc2, _, hs⟩ := open_i64s_trod h1
  obtain rfl : v0 = .int .i64 m := by simpa using hm
  exact ⟨m, A, n, cap, xs, rfl, hl, Nat.le_trans hc hc2, hs⟩

end Go.Proofs.Ytopeidmafalklaa
