/-
  Contract: what bytes begin with, of the reference.
  Conditions: at most 1048576 bytes.
-/
import Derived.Test.YtmkjlhobnlgpjaaTP
import Derived.Test.YtmkjlhobnlgpjaaSF
import Derived.Deep.RegionLaw
import Derived.Deep.AppendLies
import Derived.BigRegion
namespace Go.Proofs.Ytmkjlhobnlgpjaa
open Go.RowKit

theorem Obj.new' (W : World) (t : TypeId) (cs : Array Value) (k : Nat) (h : k = W.heap.size) : Obj (W.alloc (.cells cs t)) k t cs := by subst h; exact Obj.new W t cs
theorem Obj.drew {W : World} {B : Nat} {t : TypeId} {cs : Array Value} (h : Obj W B t cs) : Obj W.drew B t cs := h
theorem bit_eq : ∀ q < 256, ∀ r < 8, (bits .and .u8 (((q : Nat) : Int) / 2 ^ r) 1 == 1) = bitAt q r := by decide +kernel
theorem app_end {w wr w1 : World} {o : Go.Obj} {O off base k : Nat} {e : TypeId} {v u : Value} {xs : List Value} (hb : Below w.heap.size w wr) (hg : (wr.alloc o).drew.grownBy w1 v.ownBlock) (hown : wr.ownsRow base e 1 v k xs) (hbase : w.heap.size ≤ base) (hO : w.heap.size ≤ O) : Below w.heap.size w (w1.setCell ⟨O, off, none⟩ u) ∧ wr.heap.size + 1 ≤ (w1.setCell ⟨O, off, none⟩ u).heap.size := by
  have h1 : Below w.heap.size w (wr.alloc o).drew := by
    have h := hb.alloc hb.size o
    exact ⟨h.os, h.tape, h.output, h.size, h.block⟩
  refine ⟨(h1.grown hg h1.size (fun j hj => Nat.le_trans hbase (hown.lt j hj).1)).setCell (p := ⟨O, off, none⟩) hO _, ?_⟩
  have h2 := hg.size
  have h3 : (wr.alloc o).drew.heap.size = wr.heap.size + 1 := by show (wr.alloc o).heap.size = _; simp
  rw [h3] at h2
  simp
  exact h2
def nameR (s : ByteArray) : ByteArray := if beginB s then (parseD s).1 else ⟨#[]⟩
def bitsR (s : ByteArray) : List Bool := if beginB s then (parseD s).2.1 else []
def softR (s : ByteArray) : List Nat := if beginB s then (parseD s).2.2 else []
def lenR (s : ByteArray) : Nat := if beginB s then a5 s + 2 else 0
theorem begin_no {s : ByteArray} (h : ¬ a5 s + 2 ≤ s.size) : beginB s = false := by unfold beginB; rw [decide_eq_false h]; rfl

theorem run_f32from (n : Nat) (w : World) : (callFunc 75 #[.int .u32 (n : Int)]).run Try.prog w = .ok (.value (.float .f32 n)) w :=
  (run_callFunc_extern (e := Extern.MathFloatBits.float32frombits) Try.func75 (by kernel_rfl) (by kernel_rfl) (by kernel_rfl) (by kernel_rfl) _ w).trans rfl
set_option maxRecDepth 100000 in
theorem spec_FromBits_c (w : World) (x : Nat) (hx : x < 4294967296) : Calls Try.prog 73 #[.int .i64 (x : Int)] w fun e w' => e = .returned (.tuple #[.float .f32 x, .bool true]) ∧ w = w' := by
  have h1 : decide ((0 : Int) ≤ (x : Int)) = true := by simp
  have h2 : decide ((x : Int) ≤ 4294967295) = true := by simp; omega
  have h3 : IntKind.u32.wrap (x : Int) = (x : Int) := IntWalk.u32_in _ (by omega)
  have hf := run_f32from x
  go_enter Try.func73, Try.ntmps73
  go_wp2
  go_ret2
  exact ⟨rfl, rfl⟩
theorem FromBits_at {w : World} {x m : Nat} {i : Int} (he : i = (x : Int)) (hx : x < 4294967296) :
    Calls Try.prog 73 #[.int .i64 i] (w.drewN m) fun e w' => e = .returned (.tuple #[.float .f32 x, .bool true]) ∧ ∃ k, w' = w.drewN k := by
  subst he
  refine (spec_FromBits_c _ x hx).mono ?_
  rintro e w' ⟨rfl, rfl⟩
  exact ⟨rfl, m, rfl⟩
/-- an object whose block no store of another block meets -/
theorem Obj.far {W : World} {B b : Nat} {t : TypeId} {cs : Array Value} (h : Obj W B t cs) (hne : B ≠ b) (o : Nat) (v : Value) : Obj (W.setCell ⟨b, o, none⟩ v) B t cs := h.kept (grownBy_set W b o v) (by simpa using hne)
theorem own_types {W : World} {b1 b2 s1 s2 k1 k2 : Nat} {e1 e2 : TypeId} {v1 v2 : Value} {x1 x2 : List Value} (h1 : W.ownsRow b1 e1 s1 v1 k1 x1) (h2 : W.ownsRow b2 e2 s2 v2 k2 x2) (hne : e1 ≠ e2) : v1.ownBlock = none ∨ v1.ownBlock ≠ v2.ownBlock := by
  rcases h1.2 with ⟨rfl, _⟩ | ⟨g, cap, cur, rfl, _, hgb, _⟩
  · exact .inl rfl
  · refine .inr fun e' => ?_
    rcases h2.2 with ⟨rfl, _⟩ | ⟨g', cap', cur', rfl, _, hgb', _⟩
    · simp [Value.ownBlock] at e'
    · obtain rfl : g = g' := by simpa [Value.ownBlock] using e'
      have := hgb.symm.trans hgb'
      simp at this
      exact hne this.2
/-- what comes of it -/
def BegPost (w : World) (s : ByteArray) (e : Ending) (w' : World) : Prop := ∃ v1 v2, e = .returned (.tuple #[.agg #[.string (nameR s), v1, v2], .int .i64 (lenR s)]) ∧ Ow w' w.heap.size 4 v1 ((bitsR s).map Value.bool) ∧ Ow w' w.heap.size 58 v2 ((softR s).map (Value.float .f32)) ∧ Below w.heap.size w w'
theorem beg_no {w w' : World} {s : ByteArray} (h : beginB s = false) (hb : Below w.heap.size w w') : BegPost w s (.returned (.tuple #[.agg #[.string ⟨#[]⟩, .slice none 0 0, .slice none 0 0], .int .i64 0])) w' := by
  refine ⟨.slice none 0 0, .slice none 0 0, ?_, ?_, ?_, hb⟩
  · unfold nameR lenR; rw [h]; rfl
  · unfold bitsR; rw [h]; exact World.ownsRow_nil _ _ _ _
  · unfold softR; rw [h]; exact World.ownsRow_nil _ _ _ _

theorem quadN {q0 q1 q2 q3 : Nat} : (q0 : Int) + 256 * (q1 : Int) + 65536 * (q2 : Int) + 16777216 * (q3 : Int) = ((q0 + 256 * q1 + 65536 * q2 + 16777216 * q3 : Nat) : Int) := by omega
theorem bitsP_snoc (s : ByteArray) (f k : Nat) : bitsP s f (k + 1) = bitsP s f k ++ [bitAt (nB s (f + k / 8)) (k % 8)] := by
  simp only [bitsP, List.range_succ, List.map_append, List.map_cons, List.map_nil]
theorem softP_snoc (s : ByteArray) (f k : Nat) : softP s f (k + 1) = softP s f k ++ [w4 s (f + 4 * k)] := by
  simp only [softP, List.range_succ, List.map_append, List.map_cons, List.map_nil]
theorem softP_lt (s : ByteArray) (f n : Nat) : ∀ x ∈ softP s f n, x < 4294967296 := by
  intro x hx
  simp only [softP, List.mem_map] at hx
  obtain ⟨j, _, rfl⟩ := hx
  exact w4_lt _ _
theorem app_end' {w wr w1 : World} {o : Go.Obj} {O off base k : Nat} {e : TypeId} {v u : Value} {xs : List Value} (hb : Below w.heap.size w wr) (hg : (wr.alloc o).grownBy w1 v.ownBlock) (hown : wr.ownsRow base e 1 v k xs) (hbase : w.heap.size ≤ base) (hO : w.heap.size ≤ O) : Below w.heap.size w (w1.setCell ⟨O, off, none⟩ u) ∧ wr.heap.size + 1 ≤ (w1.setCell ⟨O, off, none⟩ u).heap.size := by
  have h1 := hb.alloc hb.size o
  refine ⟨(h1.grown hg h1.size (fun j hj => Nat.le_trans hbase (hown.lt j hj).1)).setCell (p := ⟨O, off, none⟩) hO _, ?_⟩
  have h2 := hg.size
  simp at h2 ⊢
  exact h2
/-- three stores into one block -/
def st3 (W : World) (B : Nat) (a b c : Value) : World := ((W.setCell ⟨B, 0, none⟩ a).setCell ⟨B, 1, none⟩ b).setCell ⟨B, 2, none⟩ c
theorem st3_grown (W : World) (B : Nat) (a b c : Value) : W.grownBy (st3 W B a b c) (some B) := ((grownBy_set W B 0 a).trans (grownBy_set _ B 1 b)).trans (grownBy_set _ B 2 c)
theorem st3_own {W : World} {B : Nat} {t e : TypeId} {cs : Array Value} (h : Obj W B t cs) (hte : t ≠ e) {base size k : Nat} {v : Value} {xs : List Value} (hr : W.ownsRow base e size v k xs) (a b c : Value) : (st3 W B a b c).ownsRow base e size v k xs := hr.kept (st3_grown W B a b c) (.inr (h.not_row hte hr).symm)
theorem st3_below {w W : World} {B : Nat} {D : Nat} (hb : Below D w W) (hD : D ≤ B) (a b c : Value) : Below D w (st3 W B a b c) := ((hb.setCell (p := ⟨B, 0, none⟩) hD _).setCell (p := ⟨B, 1, none⟩) hD _).setCell (p := ⟨B, 2, none⟩) hD _
theorem obj3 {W : World} {B : Nat} {t : TypeId} {a b c : Value} (h : Obj W B t #[a, b, c]) : W.cell? ⟨B, 0, none⟩ = some a ∧ W.cell? ⟨B, 1, none⟩ = some b ∧ W.cell? ⟨B, 2, none⟩ = some c ∧ W.frozen? ⟨B, 0, none⟩ = false ∧ W.frozen? ⟨B, 1, none⟩ = false ∧ W.frozen? ⟨B, 2, none⟩ = false := ⟨h.cell 0, h.cell 1, h.cell 2, h.frozen 0, h.frozen 1, h.frozen 2⟩
theorem begin_is {s : ByteArray} {d : SavD} {N : Nat} (hd : parseD s = d) (hN : a5 s + 2 = N) (hs : N ≤ s.size) : beginB s = (vld d && decide (stS d = s.extract 0 N)) := by
  unfold beginB
  rw [hd, hN, decide_eq_true hs]
  rfl
theorem beg_yes {w w' : World} {s nm : ByteArray} {bs : List Bool} {xs : List Nat} {v1 v2 : Value} {N : Nat} (hd : parseD s = (nm, bs, xs)) (hN : a5 s + 2 = N) (h : beginB s = true) (h1 : Ow w' w.heap.size 4 v1 (bs.map Value.bool)) (h2 : Ow w' w.heap.size 58 v2 (xs.map (Value.float .f32))) (hb : Below w.heap.size w w') : BegPost w s (.returned (.tuple #[.agg #[.string nm, v1, v2], .int .i64 (N : Int)])) w' := by
  refine ⟨v1, v2, ?_, ?_, ?_, hb⟩
  · unfold nameR lenR
    rw [h, hd, hN]
    rfl
  · unfold bitsR
    rw [h, hd]
    exact h1
  · unfold softR
    rw [h, hd]
    exact h2

end Go.Proofs.Ytmkjlhobnlgpjaa
