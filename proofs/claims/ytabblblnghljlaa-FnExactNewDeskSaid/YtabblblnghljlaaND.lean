/-
  Contracts: a new desk, of the program and of the reference.
  Conditions: none.
-/
import Derived.Test.YtabblblnghljlaaHN
import Derived.Test.YtabblblnghljlaaDB
import Derived.Lib.SlBytesConst
import Derived.RangeFuncBox
namespace Go.Proofs.Ytabblblnghljlaa
open Go.RowKit

def rowF : List Nat := [1056964608, 1048576000, 1048576000]
def lonL : List Int := [1, 2, 2]
def bitS : ByteArray := { data := #[48, 49, 48, 49, 49] }
def DeskAt (base : Nat) (w' : World) (v0 v1 v2 : Value) : Prop := Ow w' base 34 v0 (rowF.map (Value.float .f32)) ∧ Ow w' base 2 v1 (lonL.map (Value.int .i64)) ∧ Ow w' base 2 v2 (hamL.map (Value.int .i64)) ∧ Ap v0 v1 ∧ Ap v0 v2 ∧ Ap v1 v2

theorem ap_two {g h n c m k : Nat} (hne : g ≠ h) : Ap (.slice (some ⟨g, 0, none⟩) n c) (.slice (some ⟨h, 0, none⟩) m k) := fun x h1 h2 => by
  cases h1
  cases h2
  exact hne rfl
theorem ap_in {g n c a b : Nat} {u : Value} (hu : In u a b) (hg : g < a) : Ap (.slice (some ⟨g, 0, none⟩) n c) u := fun x h1 h2 => by
  cases h1
  have := hu g h2
  omega
theorem ap_in' {g n c a b : Nat} {u : Value} (hu : In u a b) (hg : b ≤ g) : Ap (.slice (some ⟨g, 0, none⟩) n c) u := fun x h1 h2 => by
  cases h1
  have := hu g h2
  omega
theorem row0 (w : World) (base : Nat) (h : base ≤ w.heap.size) : (w.alloc (.cells #[.float .f32 1056964608, .float .f32 1048576000, .float .f32 1048576000] 34)).ownsRow base 34 1 (.slice (some ⟨w.heap.size, 0, none⟩) 3 3) 3 (rowF.map (Value.float .f32)) :=
  World.ownsRow_lit w #[.float .f32 1056964608, .float .f32 1048576000, .float .f32 1048576000] 3 h (by simp [maxLen]) rfl
theorem row1 (w : World) (base : Nat) (h : base ≤ w.heap.size) : (w.alloc (.cells #[.int .i64 1, .int .i64 2, .int .i64 2] 2)).ownsRow base 2 1 (.slice (some ⟨w.heap.size, 0, none⟩) 3 3) 3 (lonL.map (Value.int .i64)) :=
  World.ownsRow_lit w #[.int .i64 1, .int .i64 2, .int .i64 2] 3 h (by simp [maxLen]) rfl

/-- a block of cells -/
def Obj (W : World) (B : Nat) (t : TypeId) (cs : Array Value) : Prop := W.heap[B]? = some (.cells cs t (0, 0))
theorem Obj.lt {W : World} {B : Nat} {t : TypeId} {cs : Array Value} (h : Obj W B t cs) : B < W.heap.size := (Array.getElem?_eq_some_iff.1 h).1
theorem Obj.cell {W : World} {B : Nat} {t : TypeId} {cs : Array Value} (h : Obj W B t cs) (o : Nat) : W.cell? ⟨B, o, none⟩ = cs[o]? := cell_of_row W B o cs t (0, 0) h
theorem Obj.frozen {W : World} {B : Nat} {t : TypeId} {cs : Array Value} (h : Obj W B t cs) (o : Nat) : W.frozen? ⟨B, o, none⟩ = false := by simp [World.frozen?, show W.heap[B]? = _ from h]
theorem Obj.new (W : World) (t : TypeId) (cs : Array Value) : Obj (W.alloc (.cells cs t)) W.heap.size t cs := heap_alloc_new W _
theorem Obj.kept {W W' : World} {row : Option Nat} {B : Nat} {t : TypeId} {cs : Array Value} (h : Obj W B t cs) (hg : W.grownBy W' row) (hne : some B ≠ row) : Obj W' B t cs := (hg.block B h.lt hne).trans h
theorem Obj.alloc {W : World} {B : Nat} {t : TypeId} {cs : Array Value} (h : Obj W B t cs) (o : Go.Obj) : Obj (W.alloc o) B t cs := h.kept (World.grownBy_alloc W o none) (by simp)
theorem Obj.below {W W' : World} {B D : Nat} {t : TypeId} {cs : Array Value} (h : Obj W B t cs) (hb : Below D W W') (hD : B < D) : Obj W' B t cs := (hb.block B hD).trans h
theorem Obj.set {W : World} {B : Nat} {t : TypeId} {cs : Array Value} (h : Obj W B t cs) (o : Nat) (v : Value) : Obj (W.setCell ⟨B, o, none⟩ v) B t (cs.setIfInBounds o v) := by
  obtain ⟨hlt, hk⟩ := Array.getElem?_eq_some_iff.1 h
  show (W.heap.modify B _)[B]? = _
  rw [Array.getElem?_eq_getElem (by rw [Array.size_modify]; exact hlt), Array.getElem_modify_self, hk]
  rfl
theorem grownBy_set (W : World) (b o : Nat) (v : Value) : W.grownBy (W.setCell ⟨b, o, none⟩ v) (some b) :=
  ⟨rfl, rfl, rfl, (KeepsWalks.setCell W _ v).size, fun k _ hk => Below.heap_setCell _ _ _ k (fun e => hk (by rw [e]))⟩
theorem Obj.five {W : World} {B : Nat} {t : TypeId} {a b c d e : Value} (h : Obj W B t #[a, b, c, d, e]) : (W.cell? ⟨B, 0, none⟩ = some a ∧ W.cell? ⟨B, 1, none⟩ = some b ∧ W.cell? ⟨B, 2, none⟩ = some c ∧ W.cell? ⟨B, 3, none⟩ = some d ∧ W.cell? ⟨B, 4, none⟩ = some e) ∧ (W.frozen? ⟨B, 0, none⟩ = false ∧ W.frozen? ⟨B, 1, none⟩ = false ∧ W.frozen? ⟨B, 2, none⟩ = false ∧ W.frozen? ⟨B, 3, none⟩ = false ∧ W.frozen? ⟨B, 4, none⟩ = false) :=
  ⟨⟨h.cell 0, h.cell 1, h.cell 2, h.cell 3, h.cell 4⟩, h.frozen 0, h.frozen 1, h.frozen 2, h.frozen 3, h.frozen 4⟩
theorem Obj.two {W : World} {B : Nat} {t : TypeId} {a b : Value} (h : Obj W B t #[a, b]) : (W.cell? ⟨B, 0, none⟩ = some a ∧ W.cell? ⟨B, 1, none⟩ = some b) ∧ (W.frozen? ⟨B, 0, none⟩ = false ∧ W.frozen? ⟨B, 1, none⟩ = false) :=
  ⟨⟨h.cell 0, h.cell 1⟩, h.frozen 0, h.frozen 1⟩
theorem below_put {D : Nat} {w W : World} (h : Below D w W) {b : Nat} (hb : D ≤ b) (o : Nat) (v : Value) : Below D w (W.setCell ⟨b, o, none⟩ v) := Below.setCell h (by simpa using hb) _

set_option maxRecDepth 100000 in
set_option maxHeartbeats 4000000 in
theorem spec_NewDesk_c (w : World) : Calls Try.prog 4 #[] w fun e w' => ∃ v0 v1 v2, e = .returned (.agg #[v0, v1, .int .i64 7, v2, .string bitS]) ∧ DeskAt w.heap.size w' v0 v1 v2 ∧ Below w.heap.size w w' := by
  obtain ⟨wa, ea⟩ : ∃ q : World, q = w.alloc (.cells #[.slice none 0 0, .slice none 0 0, .int .i64 0, .slice none 0 0, .string { data := #[] }] 29) := ⟨_, rfl⟩
  have za : wa.heap.size = w.heap.size + 1 := by rw [ea]; simp
  have Ba : Below w.heap.size w wa := by rw [ea]; exact (Below.refl _ _).alloc (Nat.le_refl _) _
  have oa : Obj wa w.heap.size 29 #[.slice none 0 0, .slice none 0 0, .int .i64 0, .slice none 0 0, .string { data := #[] }] := by rw [ea]; exact Obj.new _ _ _
  obtain ⟨wb, eb⟩ : ∃ q : World, q = wa.alloc (.cells #[.float .f32 1056964608, .float .f32 1048576000, .float .f32 1048576000] 34) := ⟨_, rfl⟩
  have r0 := row0 wa w.heap.size (by omega)
  rw [← eb, za] at r0
  have zb : wb.heap.size = w.heap.size + 1 + 1 := by rw [eb]; simp; omega
  have Bb : Below wa.heap.size wa wb := by rw [eb]; exact (Below.refl _ _).alloc (Nat.le_refl _) _
  obtain ⟨wc, ec⟩ : ∃ q : World, q = wb.alloc (.cells #[.int .i64 1, .int .i64 2, .int .i64 2] 2) := ⟨_, rfl⟩
  have r1 := row1 wb w.heap.size (by omega)
  rw [← ec, zb] at r1
  have zc : wc.heap.size = w.heap.size + 1 + 1 + 1 := by rw [ec]; simp; omega
  have Bc : Below wb.heap.size wb wc := by rw [ec]; exact (Below.refl _ _).alloc (Nat.le_refl _) _
  obtain ⟨w1, e1⟩ : ∃ q : World, q = wc.alloc (.cells #[.slice (some ⟨w.heap.size + 1, 0, none⟩) 3 3, .slice (some ⟨w.heap.size + 1 + 1, 0, none⟩) 3 3, .int .i64 0, .slice none 0 0, .string { data := #[] }] 29) := ⟨_, rfl⟩
  have z1 : w1.heap.size = w.heap.size + 1 + 1 + 1 + 1 := by rw [e1]; simp; omega
  have B1 : Below wc.heap.size wc w1 := by rw [e1]; exact (Below.refl _ _).alloc (Nat.le_refl _) _
  have ob : Obj w1 (w.heap.size + 1 + 1 + 1) 29 #[.slice (some ⟨w.heap.size + 1, 0, none⟩) 3 3, .slice (some ⟨w.heap.size + 1 + 1, 0, none⟩) 3 3, .int .i64 0, .slice none 0 0, .string { data := #[] }] := by rw [e1, ← zc]; exact Obj.new _ _ _
  have ew : w1 = (((w.alloc (.cells #[.slice none 0 0, .slice none 0 0, .int .i64 0, .slice none 0 0, .string { data := #[] }] 29)).alloc (.cells #[.float .f32 1056964608, .float .f32 1048576000, .float .f32 1048576000] 34)).alloc (.cells #[.int .i64 1, .int .i64 2, .int .i64 2] 2)).alloc (.cells #[.slice (some ⟨w.heap.size + 1, 0, none⟩) 3 3, .slice (some ⟨w.heap.size + 1 + 1, 0, none⟩) 3 3, .int .i64 0, .slice none 0 0, .string { data := #[] }] 29) := by rw [e1, ec, eb, ea]
  have Bbc : Below wa.heap.size wa w1 := Bb.trans ((Bc.trans (B1.mono (by omega))).mono (by omega))
  have oa := oa.below Bbc (by omega)
  have BB : Below w.heap.size w w1 := Ba.trans (Bbc.mono (by omega))
  have r0 := own_below r0 (Bc.trans (B1.mono (by omega))) (Nat.le_refl _)
  have r1 := own_below r1 B1 (Nat.le_refl _)
  clear ea eb ec e1 Ba Bb Bc B1 Bbc za zb zc
  go_enter Try.func4, Try.ntmps4
  go_wp2_with fail
  rw [← ew]
  clear ew
  refine (spec_Hamming3_rows w1).mono ?_
  rintro e w2 ⟨v, rfl, ho, hb⟩
  obtain ⟨S, k0, rfl, hp⟩ := ho.opn
  have hl4 : hamL.length = 4 := rfl
  rw [hl4] at hp ⊢
  clear ho
  have hin := own_in hp
  have oa := oa.below hb (by omega)
  have ob := ob.below hb (by omega)
  have B2 := BB.trans (hb.mono BB.size)
  have r0 := own_below r0 hb (Nat.le_refl _)
  have r1 := own_below r1 hb (Nat.le_refl _)
  have z2 := hb.size
  obtain ⟨w3, e3⟩ : ∃ q : World, q = w2.alloc (.cells #[.int .i64 7, .slice S 4 k0] 27) := ⟨_, rfl⟩
  have z3 : w3.heap.size = w2.heap.size + 1 := by rw [e3]; simp
  have b3 : Below w2.heap.size w2 w3 := by rw [e3]; exact (Below.refl _ _).alloc (Nat.le_refl _) _
  have oc : Obj w3 w2.heap.size 27 #[.int .i64 7, .slice S 4 k0] := by rw [e3]; exact Obj.new _ _ _
  have oa := oa.below b3 (by omega)
  have ob := ob.below b3 (by omega)
  have B3 := B2.trans (b3.mono B2.size)
  have r0 := own_below r0 b3 (Nat.le_refl _)
  have r1 := own_below r1 b3 (Nat.le_refl _)
  have hp := own_below hp b3 (Nat.le_refl _)
  obtain ⟨b1, hb1⟩ : ∃ b1, w.heap.size + 1 + 1 + 1 = b1 := ⟨_, rfl⟩
  obtain ⟨b2, hb2⟩ : ∃ b2, w2.heap.size = b2 := ⟨_, rfl⟩
  rw [hb1] at ob ⊢
  rw [hb2] at oc
  have nb : b1 < b2 := by omega
  have nb0 : w.heap.size < b1 := by omega
  obtain ⟨⟨xc0, xc1⟩, yc0, yc1⟩ := oc.two
  obtain ⟨⟨xb0, xb1, xb2, xb3, xb4⟩, yb0, yb1, yb2, yb3, yb4⟩ := ob.five
  obtain ⟨w4, e4⟩ : ∃ q : World, q = ((w3.setCell ⟨b1, 2, none⟩ (.int .i64 7)).setCell ⟨b1, 3, none⟩ (.slice S 4 k0)).setCell ⟨b1, 4, none⟩ (.string { data := #[48, 49, 48, 49, 49] }) := ⟨_, rfl⟩
  have ob4 : Obj w4 b1 29 #[.slice (some ⟨w.heap.size + 1, 0, none⟩) 3 3, .slice (some ⟨w.heap.size + 1 + 1, 0, none⟩) 3 3, .int .i64 7, .slice S 4 k0, .string { data := #[48, 49, 48, 49, 49] }] := by
    rw [e4]
    exact ((ob.set 2 (.int .i64 7)).set 3 (.slice S 4 k0)).set 4 (.string bitS)
  have oa4 : Obj w4 w.heap.size 29 #[.slice none 0 0, .slice none 0 0, .int .i64 0, .slice none 0 0, .string { data := #[] }] := by
    rw [e4]
    exact ((oa.kept (grownBy_set _ b1 2 _) (by simp; omega)).kept (grownBy_set _ b1 3 _) (by simp; omega)).kept (grownBy_set _ b1 4 _) (by simp; omega)
  have B4 : Below w.heap.size w w4 := by rw [e4]; exact below_put (below_put (below_put B3 (by omega) 2 _) (by omega) 3 _) (by omega) 4 _
  have r04 : w4.ownsRow w.heap.size 34 1 (.slice (some ⟨w.heap.size + 1, 0, none⟩) 3 3) 3 (rowF.map (Value.float .f32)) := by
    rw [e4]
    iterate 3 (refine ownsRow_setCell_other ?_ (by simp [Value.ownBlock]; omega) _)
    exact r0
  have r14 : w4.ownsRow w.heap.size 2 1 (.slice (some ⟨w.heap.size + 1 + 1, 0, none⟩) 3 3) 3 (lonL.map (Value.int .i64)) := by
    rw [e4]
    iterate 3 (refine ownsRow_setCell_other ?_ (by simp [Value.ownBlock]; omega) _)
    exact r1
  have hp4 : w4.ownsRow w1.heap.size 2 1 (.slice S 4 k0) 4 (hamL.map (Value.int .i64)) := by
    rw [e4]
    iterate 3 (refine ownsRow_setCell_below ?_ (by simp only []; omega) _)
    exact hp
  obtain ⟨⟨ub0, ub1, ub2, ub3, ub4⟩, -⟩ := ob4.five
  obtain ⟨-, va0, va1, va2, va3, va4⟩ := oa4.five
  obtain ⟨⟨ua0, ua1, ua2, ua3, ua4⟩, -⟩ := oa4.five
  have R0 := Lib.hid r04
  have R1 := Lib.hid r14
  have HIN := Lib.hid hin
  have HP := Lib.hid hp4
  have HB4 := Lib.hid B4
  have HZ := Lib.hid (And.intro z1 (And.intro z2 z3))
  clear hb b3 z1 z2 z3 r0 r1 hin hp B2 B3 BB oc ob oa hl4 r04 r14 hp4 B4 oa4 ob4
  have Hb1 := Lib.hid hb1
  clear hb1
  go_wp2_with (first | (rw [← e3]; clear e3) | (rw [← e4]; clear e4 xc0 xc1 yc0 yc1 xb0 xb1 xb2 xb3 xb4 yb0 yb1 yb2 yb3 yb4))
  refine bodyPost_ret (v := .agg #[.slice (some ⟨w.heap.size + 1, 0, none⟩) 3 3, .slice (some ⟨w.heap.size + 1 + 1, 0, none⟩) 3 3, .int .i64 7, .slice S 4 k0, .string { data := #[48, 49, 48, 49, 49] }]) (by unfold results; rw [Try.results4]; go_simp) rfl ?_
  have z1 := HZ.out
  refine ⟨_, _, _, rfl, ⟨?_, ?_, ?_, ?_, ?_, ?_⟩, ?_⟩
  · unfold Ow
    iterate 5 (refine ownsRow_setCell_other ?_ (by simp [Value.ownBlock]) _)
    exact R0.out
  · unfold Ow
    iterate 5 (refine ownsRow_setCell_other ?_ (by simp [Value.ownBlock]; omega) _)
    exact R1.out
  · unfold Ow
    refine own_base (base := w1.heap.size) ?_ (by omega)
    iterate 5 (refine ownsRow_setCell_below ?_ (by simp only []; omega) _)
    exact HP.out
  · exact ap_two (by omega)
  · exact ap_in HIN.out (by omega)
  · exact ap_in HIN.out (by omega)
  · iterate 5 (refine below_put ?_ (Nat.le_refl _) _ _)
    exact HB4.out

set_option maxRecDepth 100000 in
set_option maxHeartbeats 4000000 in
theorem impl_NewDesk_c (w : World) : Calls Try.prog 5 #[] w fun e w' => ∃ v0 v1 v2, e = .returned (.agg #[v0, v1, .int .i64 7, v2, .string bitS]) ∧ DeskAt w.heap.size w' v0 v1 v2 ∧ Below w.heap.size w w' := by
  obtain ⟨w1, e1⟩ : ∃ q : World, q = w.alloc (.cells #[.slice none 0 0, .slice none 0 0, .int .i64 0, .slice none 0 0, .string { data := #[] }] 29) := ⟨_, rfl⟩
  have z1 : w1.heap.size = w.heap.size + 1 := by rw [e1]; simp
  have B1 : Below w.heap.size w w1 := by rw [e1]; exact (Below.refl _ _).alloc (Nat.le_refl _) _
  have oa : Obj w1 w.heap.size 29 #[.slice none 0 0, .slice none 0 0, .int .i64 0, .slice none 0 0, .string { data := #[] }] := by rw [e1]; exact Obj.new _ _ _
  go_enter Try.func5, Try.ntmps5
  go_wp2_with fail
  rw [← e1]
  clear e1
  refine (impl_Hamming3_rows w1).mono ?_
  rintro e w2 ⟨v, rfl, ho, hb⟩
  obtain ⟨S, k0, rfl, hp⟩ := ho.opn
  have hl4 : hamL.length = 4 := rfl
  rw [hl4] at hp ⊢
  clear ho
  have hin := own_in hp
  have z2 := hb.size
  have oa := oa.below hb (by omega)
  have B2 := B1.trans (hb.mono B1.size)
  obtain ⟨w3, e3⟩ : ∃ q : World, q = w2.alloc (.cells #[.int .i64 7, .slice S 4 k0] 27) := ⟨_, rfl⟩
  have z3 : w3.heap.size = w2.heap.size + 1 := by rw [e3]; simp
  have b3 : Below w2.heap.size w2 w3 := by rw [e3]; exact (Below.refl _ _).alloc (Nat.le_refl _) _
  have oc : Obj w3 w2.heap.size 27 #[.int .i64 7, .slice S 4 k0] := by rw [e3]; exact Obj.new _ _ _
  have oa := oa.below b3 (by omega)
  have B3 := B2.trans (b3.mono B2.size)
  have hp := own_below hp b3 (Nat.le_refl _)
  obtain ⟨wa, ea⟩ : ∃ q : World, q = w3.alloc (.cells #[.float .f32 1056964608, .float .f32 1048576000, .float .f32 1048576000] 34) := ⟨_, rfl⟩
  have r0 := row0 w3 w.heap.size (by omega)
  rw [← ea] at r0
  have za : wa.heap.size = w3.heap.size + 1 := by rw [ea]; simp
  have ba : Below w3.heap.size w3 wa := by rw [ea]; exact (Below.refl _ _).alloc (Nat.le_refl _) _
  have oa := oa.below ba (by omega)
  have oc := oc.below ba (by omega)
  have Ba := B3.trans (ba.mono B3.size)
  have hp := own_below hp ba (Nat.le_refl _)
  obtain ⟨wb, eb⟩ : ∃ q : World, q = wa.alloc (.cells #[.int .i64 1, .int .i64 2, .int .i64 2] 2) := ⟨_, rfl⟩
  have r1 := row1 wa w.heap.size (by omega)
  rw [← eb] at r1
  have zb : wb.heap.size = wa.heap.size + 1 := by rw [eb]; simp
  have bb : Below wa.heap.size wa wb := by rw [eb]; exact (Below.refl _ _).alloc (Nat.le_refl _) _
  have r0 := own_below r0 bb (Nat.le_refl _)
  have oa := oa.below bb (by omega)
  have oc := oc.below bb (by omega)
  have Bb := Ba.trans (bb.mono Ba.size)
  have hp := own_below hp bb (Nat.le_refl _)
  have ew : wb = (w3.alloc (.cells #[.float .f32 1056964608, .float .f32 1048576000, .float .f32 1048576000] 34)).alloc (.cells #[.int .i64 1, .int .i64 2, .int .i64 2] 2) := by rw [eb, ea]
  obtain ⟨c0, hc0⟩ : ∃ c0, w3.heap.size = c0 := ⟨_, rfl⟩
  rw [za] at r1
  obtain ⟨b2, hb2⟩ : ∃ b2, w2.heap.size = b2 := ⟨_, rfl⟩
  rw [hb2] at oc
  obtain ⟨⟨ua0, ua1, ua2, ua3, ua4⟩, va0, va1, va2, va3, va4⟩ := oa.five
  obtain ⟨⟨xc0, xc1⟩, -⟩ := oc.two
  have R0 := Lib.hid r0
  have R1 := Lib.hid r1
  have HIN := Lib.hid hin
  have HP := Lib.hid hp
  have HB4 := Lib.hid Bb
  have HZ := Lib.hid (And.intro (And.intro z1 z2) (And.intro z3 (And.intro za zb)))
  clear hb b3 z1 z2 z3 za zb r0 r1 hin hp B2 B3 oc oa hl4 Ba Bb ba bb hc0 B1 ea eb
  go_wp2_with (first | (rw [← e3]; clear e3) | (rw [← ew]; clear ew))
  refine bodyPost_ret (v := .agg #[.slice (some ⟨w3.heap.size, 0, none⟩) 3 3, .slice (some ⟨w3.heap.size + 1, 0, none⟩) 3 3, .int .i64 7, .slice S 4 k0, .string { data := #[48, 49, 48, 49, 49] }]) (by unfold results; rw [Try.results5]; go_simp) rfl ?_
  obtain ⟨⟨z1, z2⟩, z3, za, zb⟩ := HZ.out
  refine ⟨_, _, _, rfl, ⟨?_, ?_, ?_, ?_, ?_, ?_⟩, ?_⟩
  · unfold Ow
    iterate 5 (refine ownsRow_setCell_other ?_ (by simp [Value.ownBlock]; omega) _)
    exact R0.out
  · unfold Ow
    iterate 5 (refine ownsRow_setCell_other ?_ (by simp [Value.ownBlock]; omega) _)
    exact R1.out
  · unfold Ow
    refine own_base (base := w1.heap.size) ?_ (by omega)
    iterate 5 (refine ownsRow_setCell_below ?_ (by simp only []; omega) _)
    exact HP.out
  · exact ap_two (by omega)
  · exact ap_in' HIN.out (by omega)
  · exact ap_in' HIN.out (by omega)
  · iterate 5 (refine below_put ?_ (Nat.le_refl _) _ _)
    exact HB4.out

end Go.Proofs.Ytabblblnghljlaa
