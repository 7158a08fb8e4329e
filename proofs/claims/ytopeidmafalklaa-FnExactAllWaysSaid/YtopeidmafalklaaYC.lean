/-
  Contract: the moves of a place, of the program.
  Conditions: a coder of one to four bits of memory and one to four masks; a part as long as the masks are many.
-/
import Derived.Test.YtopeidmafalklaaYB
import Derived.Test.YtopeidmafalklaaWD
namespace Go.Proofs.Ytopeidmafalklaa
open Go.RowKit Go.Shelf

def bN (c : Bool) : Nat := if c then 1 else 0
theorem bN_bit (c : Bool) : ((bN c : Nat) : Int) = bitI c := by cases c <;> rfl
/-- what the cells of a move hold -/
def MvC (M : Nat) (ms : List Int) (part : List Nat) (last done : Bool) (s : Nat) (c : Bool) (cs : Array Value) : Prop :=
  if done && !(c && last) then
    ∃ x, cs[s * 6 + bN c * 3]? = some (.bool true) ∧ cs[s * 6 + bN c * 3 + 1]? = some (.int .i64 (toS M s c : Nat)) ∧ cs[s * 6 + bN c * 3 + 1 + 1]? = some (.float .f32 x) ∧ fl .f32 x = halfO ms part s c
  else cs[s * 6 + bN c * 3]? = some (.bool false) ∧ cs[s * 6 + bN c * 3 + 1]? = some (.int .i64 0) ∧ cs[s * 6 + bN c * 3 + 1 + 1]? = some (.float .f32 0)
/-- a block of moves, of which those that 'done' names are laid -/
def MRow (M : Nat) (ms : List Int) (part : List Nat) (last : Bool) (done : Nat → Bool → Bool) (W : World) (b S : Nat) : Prop :=
  ∃ cs : Array Value, Obj W b 94 cs ∧ cs.size = S * 6 ∧ ∀ s, s < S → ∀ c, MvC M ms part last (done s c) s c cs
section
variable {M : Nat} {ms : List Int} {part : List Nat} {last : Bool} {done : Nat → Bool → Bool} {W : World} {b S : Nat}
theorem MRow.lt (h : MRow M ms part last done W b S) : b < W.heap.size := h.choose_spec.1.lt
theorem MRow.frz (h : MRow M ms part last done W b S) (k : Nat) : W.frozen? ⟨b, k, none⟩ = false := by
  obtain ⟨cs, hO, _⟩ := h
  exact hO.frozen k
theorem MRow.below {W' : World} {D : Nat} (h : MRow M ms part last done W b S) (hb : Below D W W') (hD : b < D) : MRow M ms part last done W' b S := by
  obtain ⟨cs, hO, h2⟩ := h
  exact ⟨cs, hO.below hb hD, h2⟩
theorem MRow.keep {W' : World} {row : Option Nat} (h : MRow M ms part last done W b S) (hg : W.grownBy W' row) (hne : some b ≠ row) : MRow M ms part last done W' b S := by
  obtain ⟨cs, hO, h2⟩ := h
  exact ⟨cs, hO.kept hg hne, h2⟩
theorem MRow.alloc (h : MRow M ms part last done W b S) (o : Go.Obj) : MRow M ms part last done (W.alloc o) b S := by
  obtain ⟨cs, hO, h2⟩ := h
  exact ⟨cs, hO.alloc o, h2⟩
theorem MRow.far (h : MRow M ms part last done W b S) {c : Nat} (hne : b ≠ c) (k : Nat) (v : Value) : MRow M ms part last done (W.setCell ⟨c, k, none⟩ v) b S := by
  obtain ⟨cs, hO, h2⟩ := h
  exact ⟨cs, hO.far hne k v, h2⟩
theorem MRow.old (h : MRow M ms part last done W b S) {s : Nat} (hs : s < S) {c : Bool} (hc : (done s c && !(c && last)) = false) :
    W.cell? ⟨b, s * 6 + bN c * 3, none⟩ = some (.bool false) ∧ W.cell? ⟨b, s * 6 + bN c * 3 + 1, none⟩ = some (.int .i64 0) ∧ W.cell? ⟨b, s * 6 + bN c * 3 + 1 + 1, none⟩ = some (.float .f32 0) := by
  obtain ⟨cs, hO, _, h2⟩ := h
  have h3 := h2 s hs c
  unfold MvC at h3
  rw [if_neg (by rw [hc]; decide)] at h3
  exact ⟨(hO.cell _).trans h3.1, (hO.cell _).trans h3.2.1, (hO.cell _).trans h3.2.2⟩
theorem MRow.put (h : MRow M ms part last done W b S) {s : Nat} (hs : s < S) {c : Bool} (hc : (c && last) = false) {x : Nat} (hx : fl .f32 x = halfO ms part s c) {done' : Nat → Bool → Bool} (hd1 : done' s c = true) (hd2 : ∀ s' c', s' < S → (s' ≠ s ∨ c' ≠ c) → done' s' c' = done s' c') :
    MRow M ms part last done' (((W.setCell ⟨b, s * 6 + bN c * 3, none⟩ (.bool true)).setCell ⟨b, s * 6 + bN c * 3 + 1, none⟩ (.int .i64 (toS M s c : Nat))).setCell ⟨b, s * 6 + bN c * 3 + 1 + 1, none⟩ (.float .f32 x)) b S := by
  obtain ⟨cs, hO, h2, h3⟩ := h
  have hb1 : bN c ≤ 1 := by cases c <;> decide
  refine ⟨_, ((hO.set _ _).set _ _).set _ _, by simp [h2], fun s' hs' c' => ?_⟩
  have hb2 : bN c' ≤ 1 := by cases c' <;> decide
  by_cases e : s' = s ∧ c' = c
  · obtain ⟨rfl, rfl⟩ := e
    unfold MvC
    rw [hd1, hc, if_pos (by decide)]
    refine ⟨x, ?_, ?_, ?_, hx⟩
    · rw [Array.getElem?_setIfInBounds_ne (by omega), Array.getElem?_setIfInBounds_ne (by omega), Array.getElem?_setIfInBounds_self_of_lt (by omega)]
    · rw [Array.getElem?_setIfInBounds_ne (by omega), Array.getElem?_setIfInBounds_self_of_lt (by simp; omega)]
    · rw [Array.getElem?_setIfInBounds_self_of_lt (by simp; omega)]
  · have hne : s' ≠ s ∨ c' ≠ c := by
      by_cases q : s' = s
      · exact .inr fun q2 => e ⟨q, q2⟩
      · exact .inl q
    have hbn : s' ≠ s ∨ bN c' ≠ bN c := by
      rcases hne with q | q
      · exact .inl q
      · exact .inr (by cases c <;> cases c' <;> first | exact absurd rfl q | decide)
    have key : ∀ j1 j2, j1 ≤ 2 → j2 ≤ 2 → s * 6 + bN c * 3 + j1 ≠ s' * 6 + bN c' * 3 + j2 := by
      intro j1 j2 q1 q2
      omega
    have ks : ∀ j2, j2 ≤ 2 → (((cs.setIfInBounds (s * 6 + bN c * 3) (.bool true)).setIfInBounds (s * 6 + bN c * 3 + 1) (.int .i64 (toS M s c : Nat))).setIfInBounds (s * 6 + bN c * 3 + 1 + 1) (.float .f32 x))[s' * 6 + bN c' * 3 + j2]? = cs[s' * 6 + bN c' * 3 + j2]? := by
      intro j2 q
      rw [Array.getElem?_setIfInBounds_ne (key 2 j2 (by omega) q), Array.getElem?_setIfInBounds_ne (key 1 j2 (by omega) q), Array.getElem?_setIfInBounds_ne (show s * 6 + bN c * 3 ≠ s' * 6 + bN c' * 3 + j2 from key 0 j2 (by omega) q)]
    have k0 := ks 0 (by omega)
    have k1 := ks 1 (by omega)
    have k2 := ks 2 (by omega)
    have h4 := h3 s' hs' c'
    unfold MvC at h4 ⊢
    rw [hd2 s' c' hs' hne]
    split
    · rename_i hh
      rw [if_pos hh] at h4
      obtain ⟨y, y0, y1, y2, y3⟩ := h4
      exact ⟨y, k0.trans y0, k1.trans y1, k2.trans y2, y3⟩
    · rename_i hh
      rw [if_neg hh] at h4
      exact ⟨k0.trans h4.1, k1.trans h4.2.1, k2.trans h4.2.2⟩
end
theorem moves_made {S s : Nat} (hs : s < S) (c : Bool) : (madeCells #[Value.bool false, .int .i64 0, .float .f32 0, .bool false, .int .i64 0, .float .f32 0] (S * 6))[s * 6 + bN c * 3]? = some (.bool false) ∧
    (madeCells #[Value.bool false, .int .i64 0, .float .f32 0, .bool false, .int .i64 0, .float .f32 0] (S * 6))[s * 6 + bN c * 3 + 1]? = some (.int .i64 0) ∧ (madeCells #[Value.bool false, .int .i64 0, .float .f32 0, .bool false, .int .i64 0, .float .f32 0] (S * 6))[s * 6 + bN c * 3 + 1 + 1]? = some (.float .f32 0) := by
  unfold madeCells
  cases c
  · have e0 : (s * 6 + bN false * 3) % 6 = 0 := by show (s * 6 + 0 * 3) % 6 = 0; omega
    have e1 : (s * 6 + bN false * 3 + 1) % 6 = 1 := by show (s * 6 + 0 * 3 + 1) % 6 = 1; omega
    have e2 : (s * 6 + bN false * 3 + 1 + 1) % 6 = 2 := by show (s * 6 + 0 * 3 + 1 + 1) % 6 = 2; omega
    have hl : s * 6 + bN false * 3 + 1 + 1 < S * 6 := by show s * 6 + 0 * 3 + 1 + 1 < S * 6; omega
    refine ⟨?_, ?_, ?_⟩
    · simp [show s * 6 + bN false * 3 < S * 6 by omega, e0]
    · simp [show s * 6 + bN false * 3 + 1 < S * 6 by omega, e1]
    · simp [show s * 6 + bN false * 3 + 1 + 1 < S * 6 by omega, e2]
  · have e0 : (s * 6 + bN true * 3) % 6 = 3 := by show (s * 6 + 1 * 3) % 6 = 3; omega
    have e1 : (s * 6 + bN true * 3 + 1) % 6 = 4 := by show (s * 6 + 1 * 3 + 1) % 6 = 4; omega
    have e2 : (s * 6 + bN true * 3 + 1 + 1) % 6 = 5 := by show (s * 6 + 1 * 3 + 1 + 1) % 6 = 5; omega
    have hl : s * 6 + bN true * 3 + 1 + 1 < S * 6 := by show s * 6 + 1 * 3 + 1 + 1 < S * 6; omega
    refine ⟨?_, ?_, ?_⟩
    · simp [show s * 6 + bN true * 3 < S * 6 by omega, e0]
    · simp [show s * 6 + bN true * 3 + 1 < S * 6 by omega, e1]
    · simp [show s * 6 + bN true * 3 + 1 + 1 < S * 6 by omega, e2]
theorem MRow.new (M : Nat) (ms : List Int) (part : List Nat) (last : Bool) (W : World) (S : Nat) : MRow M ms part last (fun _ _ => false) (W.alloc (.cells (madeCells #[Value.bool false, .int .i64 0, .float .f32 0, .bool false, .int .i64 0, .float .f32 0] (S * 6)) 94)) W.heap.size S := by
  refine ⟨_, Obj.new _ _ _, size_madeCells _ _, fun s hs c => ?_⟩
  unfold MvC
  rw [if_neg (by simp)]
  exact moves_made hs c
theorem run_mkMove (S : Nat) (hS : S ≤ 1048576) (kl kc : IntKind) (w : World) :
    (Instr.makeSlice 82 (.int kl (S : Int)) (.int kc (S : Int))).run Try.prog w = .ok (.slice (some ⟨w.heap.size, 0, none⟩) S S) (w.alloc (.cells (madeCells #[Value.bool false, .int .i64 0, .float .f32 0, .bool false, .int .i64 0, .float .f32 0] (S * 6)) 94)) := by
  have hi := infoMoves
  cases h : Try.prog.info? 94 with
  | none => rw [h] at hi; cases hi
  | some i =>
    rw [h] at hi
    simp only [Option.map_some, Option.some.injEq, Prod.mk.injEq] at hi
    obtain ⟨h1, h2, h3⟩ := hi
    have hb : (i.bytes : Int) * (S : Int) ≤ 281474976710656 := by rw [h3]; omega
    have hr := run_make (P := Try.prog) w 82 94 i (.agg #[.bool false, .int .i64 0, .float .f32 0, .bool false, .int .i64 0, .float .f32 0]) Try.underlying82 h h1 kl kc S S (by omega) (Int.le_refl _) hb (by omega)
    simp only [Int.toNat_natCast, h2] at hr
    exact hr
theorem run_mkLikely (S : Nat) (hS : S ≤ 1048576) (kl kc : IntKind) (w : World) :
    (Instr.makeSlice 84 (.int kl (S : Int)) (.int kc (S : Int))).run Try.prog w = .ok (.slice (some ⟨w.heap.size, 0, none⟩) S S) (w.alloc (.cells (madeCells #[Value.bool false, .float .f32 0] (S * 2)) 87)) := by
  have hi := infoLikely
  cases h : Try.prog.info? 87 with
  | none => rw [h] at hi; cases hi
  | some i =>
    rw [h] at hi
    simp only [Option.map_some, Option.some.injEq, Prod.mk.injEq] at hi
    obtain ⟨h1, h2, h3⟩ := hi
    have hb : (i.bytes : Int) * (S : Int) ≤ 281474976710656 := by rw [h3]; omega
    have hr := run_make (P := Try.prog) w 84 87 i (.agg #[.bool false, .float .f32 0]) Try.underlying84 h h1 kl kc S S (by omega) (Int.le_refl _) hb (by omega)
    simp only [Int.toNat_natCast, h2] at hr
    exact hr
theorem run_mkSum (S : Nat) (hS : S ≤ 1048576) (kl kc : IntKind) (w : World) :
    (Instr.makeSlice 68 (.int kl (S : Int)) (.int kc (S : Int))).run Try.prog w = .ok (.slice (some ⟨w.heap.size, 0, none⟩) S S) (w.alloc (.cells (madeCells #[Value.bool false, .float .f32 0] (S * 2)) 71)) := by
  have hi := infoSum
  cases h : Try.prog.info? 71 with
  | none => rw [h] at hi; cases hi
  | some i =>
    rw [h] at hi
    simp only [Option.map_some, Option.some.injEq, Prod.mk.injEq] at hi
    obtain ⟨h1, h2, h3⟩ := hi
    have hb : (i.bytes : Int) * (S : Int) ≤ 281474976710656 := by rw [h3]; omega
    have hr := run_make (P := Try.prog) w 68 71 i (.agg #[.bool false, .float .f32 0]) Try.underlying68 h h1 kl kc S S (by omega) (Int.le_refl _) hb (by omega)
    simp only [Int.toNat_natCast, h2] at hr
    exact hr

end Go.Proofs.Ytopeidmafalklaa
