/-
  Plain: a block that holds picks (a state, its gain, from where), and where it stays.
  Conditions: none.
-/
import Derived.Test.YtopeidmafalklaaWD
import Derived.Test.YtopeidmafalklaaBW
namespace Go.Proofs.Ytopeidmafalklaa
open Go.RowKit Go.Shelf

theorem infoPick : (Try.prog.info? 110).map (fun i => (i.zero, i.size, i.bytes)) = some (some (.agg #[.bool false, .float .f32 0, .int .i64 0]), 3, 16) := by kernel_rfl
theorem infoPickS : (Try.prog.info? 108).map (fun i => (i.zero, i.size, i.bytes)) = some (some (.slice none 0 0), 1, 24) := by kernel_rfl
/-- a block with the picks of a table -/
def PRow (W : World) (b S : Nat) (T : Tb) (ns : List Nat) : Prop :=
  (∃ cs : Array Value, Obj W b 110 cs ∧ cs.size = S * 3 ∧ ∀ s, s < S → cs[s * 3]? = some (.bool (T.h.getD s false)) ∧ cs[s * 3 + 1]? = some (.float .f32 (ns.getD s 0)) ∧ cs[s * 3 + 1 + 1]? = some (.int .i64 (T.f.getD s 0))) ∧ Sz S T ∧ ns.map (fl .f32) = T.g
theorem PRow.lt {W : World} {b S : Nat} {T : Tb} {ns : List Nat} (h : PRow W b S T ns) : b < W.heap.size := h.1.choose_spec.1.lt
theorem PRow.len {W : World} {b S : Nat} {T : Tb} {ns : List Nat} (h : PRow W b S T ns) : ns.length = S := by
  have := congrArg List.length h.2.2
  rw [List.length_map, h.2.1.g] at this
  exact this
theorem PRow.cells {W : World} {b S : Nat} {T : Tb} {ns : List Nat} (h : PRow W b S T ns) {s : Nat} (hs : s < S) :
    W.cell? ⟨b, s * 3, none⟩ = some (.bool (T.h.getD s false)) ∧ W.cell? ⟨b, s * 3 + 1, none⟩ = some (.float .f32 (ns.getD s 0)) ∧ W.cell? ⟨b, s * 3 + 1 + 1, none⟩ = some (.int .i64 (T.f.getD s 0)) := by
  obtain ⟨⟨cs, hO, _, hc⟩, _⟩ := h
  obtain ⟨h1, h2, h3⟩ := hc s hs
  exact ⟨(hO.cell _).trans h1, (hO.cell _).trans h2, (hO.cell _).trans h3⟩
theorem PRow.frz {W : World} {b S : Nat} {T : Tb} {ns : List Nat} (h : PRow W b S T ns) (k : Nat) : W.frozen? ⟨b, k, none⟩ = false := by
  obtain ⟨⟨cs, hO, _⟩, _⟩ := h
  exact hO.frozen k
theorem PRow.below {W W' : World} {b D S : Nat} {T : Tb} {ns : List Nat} (h : PRow W b S T ns) (hb : Below D W W') (hD : b < D) : PRow W' b S T ns := by
  obtain ⟨⟨cs, hO, h2⟩, h3⟩ := h
  exact ⟨⟨cs, hO.below hb hD, h2⟩, h3⟩
theorem PRow.kept {W W' : World} {row : Option Nat} {b S : Nat} {T : Tb} {ns : List Nat} (h : PRow W b S T ns) (hg : W.grownBy W' row) (hne : some b ≠ row) : PRow W' b S T ns := by
  obtain ⟨⟨cs, hO, h2⟩, h3⟩ := h
  exact ⟨⟨cs, hO.kept hg hne, h2⟩, h3⟩
theorem PRow.alloc {W : World} {b S : Nat} {T : Tb} {ns : List Nat} (h : PRow W b S T ns) (o : Go.Obj) : PRow (W.alloc o) b S T ns := by
  obtain ⟨⟨cs, hO, h2⟩, h3⟩ := h
  exact ⟨⟨cs, hO.alloc o, h2⟩, h3⟩
theorem PRow.far {W : World} {b c S : Nat} {T : Tb} {ns : List Nat} (h : PRow W b S T ns) (hne : b ≠ c) (k : Nat) (v : Value) : PRow (W.setCell ⟨c, k, none⟩ v) b S T ns := by
  obtain ⟨⟨cs, hO, h2⟩, h3⟩ := h
  exact ⟨⟨cs, hO.far hne k v, h2⟩, h3⟩
theorem PRow.put {W : World} {b S : Nat} {T : Tb} {ns : List Nat} (h : PRow W b S T ns) {to : Nat} (hto : to < S) (v : Nat) (x : Option Nat) (hv : fl .f32 v = x) (s : Int) (h0 : 0 ≤ s) (h1 : s < S) :
    PRow (((W.setCell ⟨b, to * 3, none⟩ (.bool true)).setCell ⟨b, to * 3 + 1, none⟩ (.float .f32 v)).setCell ⟨b, to * 3 + 1 + 1, none⟩ (.int .i64 s)) b S ⟨T.h.set to true, T.g.set to x, T.f.set to s⟩ (ns.set to v) := by
  have hln := h.len
  obtain ⟨⟨cs, hO, h2, h3⟩, h4, h5⟩ := h
  refine ⟨⟨_, ((hO.set _ _).set _ _).set _ _, by simp [h2], fun i hi => ?_⟩, ⟨by simp [h4.h], by simp [h4.g], by simp [h4.f], fun y hy => ?_⟩, by rw [List.map_set, h5, hv]⟩
  · obtain ⟨k1, k2, k3⟩ := h3 i hi
    by_cases e : to = i
    · subst e
      have t1 : to < T.h.length := by rw [h4.h]; exact hi
      have t2 : to < ns.length := by rw [hln]; exact hi
      have t3 : to < T.f.length := by rw [h4.f]; exact hi
      have u1 : (T.h.set to true).getD to false = true := by simp [List.getD, t1]
      have u2 : (ns.set to v).getD to 0 = v := by simp [List.getD, t2]
      have u3 : (T.f.set to s).getD to 0 = s := by simp [List.getD, t3]
      rw [u1, u2, u3]
      refine ⟨?_, ?_, ?_⟩
      · rw [Array.getElem?_setIfInBounds_ne (by omega), Array.getElem?_setIfInBounds_ne (by omega), Array.getElem?_setIfInBounds_self_of_lt (by omega)]
      · rw [Array.getElem?_setIfInBounds_ne (by omega), Array.getElem?_setIfInBounds_self_of_lt (by simp; omega)]
      · rw [Array.getElem?_setIfInBounds_self_of_lt (by simp; omega)]
    · have u1 : (T.h.set to true).getD i false = T.h.getD i false := by simp [List.getD, List.getElem?_set_ne e]
      have u2 : (ns.set to v).getD i 0 = ns.getD i 0 := by simp [List.getD, List.getElem?_set_ne e]
      have u3 : (T.f.set to s).getD i 0 = T.f.getD i 0 := by simp [List.getD, List.getElem?_set_ne e]
      rw [u1, u2, u3]
      refine ⟨?_, ?_, ?_⟩
      · rw [Array.getElem?_setIfInBounds_ne (by omega), Array.getElem?_setIfInBounds_ne (by omega), Array.getElem?_setIfInBounds_ne (by omega)]; exact k1
      · rw [Array.getElem?_setIfInBounds_ne (by omega), Array.getElem?_setIfInBounds_ne (by omega), Array.getElem?_setIfInBounds_ne (by omega)]; exact k2
      · rw [Array.getElem?_setIfInBounds_ne (by omega), Array.getElem?_setIfInBounds_ne (by omega), Array.getElem?_setIfInBounds_ne (by omega)]; exact k3
  · rcases List.mem_or_eq_of_mem_set hy with h6 | h6
    · exact h4.b y h6
    · rw [h6]; exact ⟨h0, h1⟩
theorem picks_made {S s : Nat} (hs : s < S) : (madeCells #[Value.bool false, .float .f32 0, .int .i64 0] (S * 3))[s * 3]? = some (.bool false) ∧ (madeCells #[Value.bool false, .float .f32 0, .int .i64 0] (S * 3))[s * 3 + 1]? = some (.float .f32 0) ∧ (madeCells #[Value.bool false, .float .f32 0, .int .i64 0] (S * 3))[s * 3 + 1 + 1]? = some (.int .i64 0) := by
  unfold madeCells
  have e0 : (s * 3) % 3 = 0 := by omega
  have e1 : (s * 3 + 1) % 3 = 1 := by omega
  have e2 : (s * 3 + 1 + 1) % 3 = 2 := by omega
  refine ⟨?_, ?_, ?_⟩
  · simp [show s * 3 < S * 3 by omega]
  · simp [show s * 3 + 1 < S * 3 by omega, e1]
  · simp [show s * 3 + 1 + 1 < S * 3 by omega, e2]
theorem PRow.new (W : World) {S : Nat} (hS : 1 ≤ S) : PRow (W.alloc (.cells (madeCells #[Value.bool false, .float .f32 0, .int .i64 0] (S * 3)) 110)) W.heap.size S (newT S) (List.replicate S 0) := by
  refine ⟨⟨_, Obj.new _ _ _, size_madeCells _ _, fun s hs => ?_⟩, sz_new hS, by unfold newT; simp only [List.map_replicate, fl0]⟩
  obtain ⟨h1, h2, h3⟩ := picks_made hs
  have u1 : (newT S).h.getD s false = false := by simp [newT, List.getD, hs]
  have u2 : (List.replicate S 0).getD s 0 = 0 := by simp [List.getD, hs]
  have u3 : (newT S).f.getD s 0 = 0 := by simp [newT, List.getD, hs]
  rw [u1, u2, u3]
  exact ⟨h1, h2, h3⟩
theorem PRow.start {W : World} {b S : Nat} (h : PRow W b S (newT S) (List.replicate S 0)) (hS : 1 ≤ S) : PRow (W.setCell ⟨b, 0, none⟩ (.bool true)) b S (startT S) (List.replicate S 0) := by
  obtain ⟨⟨cs, hO, h2, h3⟩, _, _⟩ := h
  refine ⟨⟨_, hO.set _ _, by simp [h2], fun i hi => ?_⟩, sz_start hS, by unfold startT; simp only [List.map_replicate, fl0]⟩
  obtain ⟨k1, k2, k3⟩ := h3 i hi
  by_cases e : i = 0
  · subst e
    have u1 : (startT S).h.getD 0 false = true := by simp [startT, List.getD, hi]
    rw [u1]
    refine ⟨?_, ?_, ?_⟩
    · rw [Array.getElem?_setIfInBounds_self_of_lt (by omega)]
    · rw [Array.getElem?_setIfInBounds_ne (by omega)]; exact k2
    · rw [Array.getElem?_setIfInBounds_ne (by omega)]; exact k3
  · have u1 : (startT S).h.getD i false = (newT S).h.getD i false := by simp [startT, newT, List.getD, List.getElem?_set_ne (show 0 ≠ i by omega)]
    rw [u1]
    refine ⟨?_, ?_, ?_⟩
    · rw [Array.getElem?_setIfInBounds_ne (by omega)]; exact k1
    · rw [Array.getElem?_setIfInBounds_ne (by omega)]; exact k2
    · rw [Array.getElem?_setIfInBounds_ne (by omega)]; exact k3
theorem run_mkPick (S : Nat) (hS : S ≤ 1048576) (kl kc : IntKind) (w : World) :
    (Instr.makeSlice 108 (.int kl (S : Int)) (.int kc (S : Int))).run Try.prog w = .ok (.slice (some ⟨w.heap.size, 0, none⟩) S S) (w.alloc (.cells (madeCells #[Value.bool false, .float .f32 0, .int .i64 0] (S * 3)) 110)) := by
  have hi := infoPick
  cases h : Try.prog.info? 110 with
  | none => rw [h] at hi; cases hi
  | some i =>
    rw [h] at hi
    simp only [Option.map_some, Option.some.injEq, Prod.mk.injEq] at hi
    obtain ⟨h1, h2, h3⟩ := hi
    have hb : (i.bytes : Int) * (S : Int) ≤ 281474976710656 := by rw [h3]; omega
    have hr := run_make (P := Try.prog) w 108 110 i (.agg #[.bool false, .float .f32 0, .int .i64 0]) Try.underlying108 h h1 kl kc S S (by omega) (Int.le_refl _) hb (by omega)
    simp only [Int.toNat_natCast, h2] at hr
    exact hr

end Go.Proofs.Ytopeidmafalklaa
