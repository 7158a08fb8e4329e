/-
  Contract: what bytes begin with, of the program.
  Conditions: at most 1048576 bytes.
-/
import Derived.Test.YtmkjlhobnlgpjaaTT
import Derived.Deep.RegionHeld2
import Derived.Deep.RegionLaw
import Derived.Deep.AppendLies
import Derived.BigRegion
namespace Go.Proofs.Ytmkjlhobnlgpjaa
open Go.RowKit

theorem or_disj (a b i : Nat) (hb : b < 2 ^ i) : b ||| (a * 2 ^ i) = b + a * 2 ^ i := by
  rw [Nat.mul_comm, Nat.or_comm, Nat.add_comm]
  exact (Nat.two_pow_add_eq_or_of_lt hb a).symm
theorem or_u32 (x y : Nat) (hx : x < 4294967296) (hy : y < 4294967296) : bits .or .u32 (x : Int) (y : Int) = ((x ||| y : Nat) : Int) := by
  have h : x ||| y < 4294967296 := Nat.or_lt_two_pow (n := 32) hx hy
  show IntKind.u32.wrap (((BitVec.ofInt 32 (x : Int) ||| BitVec.ofInt 32 (y : Int)).toNat : Nat) : Int) = _
  rw [BitVec.toNat_or, BitVec.toNat_ofInt, BitVec.toNat_ofInt]
  have e1 : ((x : Int) % ((2 ^ 32 : Nat) : Int)).toNat = x := by omega
  have e2 : ((y : Int) % ((2 ^ 32 : Nat) : Int)).toNat = y := by omega
  rw [e1, e2]
  exact IntWalk.u32_in _ (by omega)
theorem or8 {a b : Nat} (ha : a < 256) (hb : b < 256) : bits .or .u32 (a : Int) ((b : Int) * 256) = ((a + 256 * b : Nat) : Int) := by
  have h := or_u32 a (b * 256) (by omega) (by omega)
  rw [or_disj b a 8 (by omega)] at h
  rw [show ((b : Int) * 256) = ((b * 256 : Nat) : Int) by omega, h]
  omega
theorem or16 {a b : Nat} (ha : a < 65536) (hb : b < 256) : bits .or .u32 (a : Int) ((b : Int) * 65536) = ((a + 65536 * b : Nat) : Int) := by
  have h := or_u32 a (b * 65536) (by omega) (by omega)
  rw [or_disj b a 16 (by omega)] at h
  rw [show ((b : Int) * 65536) = ((b * 65536 : Nat) : Int) by omega, h]
  omega
theorem or24 {a b : Nat} (ha : a < 16777216) (hb : b < 256) : bits .or .u32 (a : Int) ((b : Int) * 16777216) = ((a + 16777216 * b : Nat) : Int) := by
  have h := or_u32 a (b * 16777216) (by omega) (by omega)
  rw [or_disj b a 24 (by omega)] at h
  rw [show ((b : Int) * 16777216) = ((b * 16777216 : Nat) : Int) by omega, h]
  omega
/-- that the operation is an append -/
theorem at_append {M : Program} {ops : Array Oper} {d : Option Tmp} {x y : Operand} {t ty : TypeId} {ps : String} {af : Array Edge} {g : Option (Nat × Bool)} {a : Act} {w : World} {K : Act → World → Prop} {Q : Exit → Act → World → Prop} {E : Prop}
    (h : if Region.wanted (Oper.mk d (.call { callee := .builtin .append, args := #[x, y], argTypes := #[t, t] }) ty ps af g) (yielded ops a.tmps) = true then Oper.wp M (Oper.mk d (.call { callee := .builtin .append, args := #[x, y], argTypes := #[t, t] }) ty ps af g) a w K Q else E) :
    if Region.wanted (Oper.mk d (.call { callee := .builtin .append, args := #[x, y], argTypes := #[t, t] }) ty ps af g) (yielded ops a.tmps) = true then Oper.wp M (Oper.mk d (.call { callee := .builtin .append, args := #[x, y], argTypes := #[t, t] }) ty ps af g) a w K Q else E := h
/-- what comes of it -/
def RdPost (w : World) (s : ByteArray) (e : Ending) (w' : World) : Prop := ∃ v1 v2, e = .returned (.tuple #[.agg #[.string (nameR s), v1, v2], .int .i64 (lenR s), .bool (beginB s)]) ∧ Ow w' w.heap.size 4 v1 ((bitsR s).map Value.bool) ∧ Ow w' w.heap.size 58 v2 ((softR s).map (Value.float .f32)) ∧ Below w.heap.size w w'
theorem rd_no {w w' : World} {s : ByteArray} (h : beginB s = false) (hb : Below w.heap.size w w') : RdPost w s (.returned (.tuple #[.agg #[.string ⟨#[]⟩, .slice none 0 0, .slice none 0 0], .int .i64 0, .bool false])) w' := by
  refine ⟨.slice none 0 0, .slice none 0 0, ?_, ?_, ?_, hb⟩
  · unfold nameR lenR; rw [h]; rfl
  · unfold bitsR; rw [h]; exact World.ownsRow_nil _ _ _ _
  · unfold softR; rw [h]; exact World.ownsRow_nil _ _ _ _
theorem rd_yes {w w' : World} {s nm : ByteArray} {bs : List Bool} {xs : List Nat} {v1 v2 : Value} {N : Nat} (hd : parseD s = (nm, bs, xs)) (hN : a5 s + 2 = N) (h : beginB s = true) (h1 : Ow w' w.heap.size 4 v1 (bs.map Value.bool)) (h2 : Ow w' w.heap.size 58 v2 (xs.map (Value.float .f32))) (hb : Below w.heap.size w w') : RdPost w s (.returned (.tuple #[.agg #[.string nm, v1, v2], .int .i64 (N : Int), .bool true])) w' := by
  refine ⟨v1, v2, ?_, ?_, ?_, hb⟩
  · unfold nameR lenR
    rw [h, hd, hN]
    rfl
  · unfold bitsR
    rw [h, hd]
    exact h1
  · unfold softR
    rw [h, hd]
    exact h2
/-- one reading -/
theorem take_at {w : World} {s r : ByteArray} {b : Bool} {T p n : Nat} (hs : s.size ≤ 1048576) (hn : n ≤ 1048576) (hT : Obj w T 97 #[.string r, .bool b]) (hR : Rd s p r b) :
    Calls Try.prog 74 #[.pointer (some ⟨T, 0, none⟩), .int .i64 (n : Int)] w fun e w' => ∃ x r' b', e = .returned (.string x) ∧ x.size = n ∧ Rd s (p + n) r' b' ∧ (b' = false → b = false ∧ x = s.extract p (p + n)) ∧ (n = 1 → nB x 0 = nB s p) ∧ Obj w' T 97 #[.string r', .bool b'] ∧ w.grownBy w' (some T) := by
  refine (impl_take_c w T r b n (Nat.le_trans hR.1 hs) hn hT).mono ?_
  rintro e w' ⟨rfl, h1, h2⟩
  obtain ⟨h3, h4, h5⟩ := hR.step n
  exact ⟨_, _, _, rfl, h4, h3, h5, fun h => by subst h; exact hR.byte, h1, h2⟩

set_option linter.unusedSimpArgs false in
set_option maxRecDepth 100000 in
set_option maxHeartbeats 8000000 in
theorem impl_readSaved_c (w : World) (s : ByteArray) (hs : s.size ≤ 1048576) :
    Calls Try.prog 51 #[.string s] w fun e w' => RdPost w s e w' := by
  obtain ⟨w0, e0⟩ : ∃ q : World, q = (w.alloc (.cells #[.string ⟨#[]⟩, .slice none 0 0, .slice none 0 0] 35)).alloc (.cells #[.string s, .bool false] 97) := ⟨_, rfl⟩
  have hB0 : Below w.heap.size w w0 := by rw [e0]; exact ((Below.refl _ _).alloc (Nat.le_refl _) _).alloc (by simp) _
  have hR0 : Obj w0 w.heap.size 35 #[.string ⟨#[]⟩, .slice none 0 0, .slice none 0 0] := by rw [e0]; exact (Obj.new _ _ _).alloc _
  have hT0 : Obj w0 (w.heap.size + 1) 97 #[.string s, .bool false] := by rw [e0]; exact Obj.new' _ _ _ _ (by simp)
  have hz0 : w0.heap.size = w.heap.size + 2 := by rw [e0]; simp
  have HRd0 := Lib.hid (Rd.zero s)
  have HC := Lib.hid (fun (W : World) (r : ByteArray) (b : Bool) (p n : Nat) (hn : n ≤ 1048576) => take_at (w := W) (r := r) (b := b) (T := w.heap.size + 1) (p := p) (n := n) hs hn)
  go_enter Try.func51, Try.ntmps51
  go_wp2_with fail
  rw [← e0]
  clear e0
  refine (HC.out _ _ _ _ 4 (by decide) hT0 HRd0.out).mono ?_
  rintro e w1 ⟨x1, r1, b1, rfl, -, HRd1, F1, -, hT1, hg1⟩
  have hR1 := hR0.kept hg1 (by simp)
  have hB1 := hB0.grown hg1 hB0.size (fun k e => by cases e; omega)
  have hz1 : w.heap.size + 2 ≤ w1.heap.size := by have := hg1.size; omega
  have F1' := Lib.hid F1
  have HRd1' := Lib.hid HRd1
  clear F1 HRd1 HRd0 hg1 hR0 hB0 hT0 hz0
  go_wp2_with fail
  refine (HC.out _ _ _ _ 1 (by decide) hT1 HRd1'.out).mono ?_
  rintro e w2 ⟨x2, r2, b2, rfl, X2, HRd2, F2, N2, hT2, hg2⟩
  have hR2 := hR1.kept hg2 (by simp)
  have hB2 := hB1.grown hg2 hB1.size (fun k e => by cases e; omega)
  have hz2 : w.heap.size + 2 ≤ w2.heap.size := by have := hg2.size; omega
  have F2' := Lib.hid F2
  obtain ⟨n1, hn1⟩ : ∃ q, nB s 4 = q := ⟨_, rfl⟩
  have b1 : n1 < 256 := by rw [← hn1]; exact nB_lt s 4
  have i2 : x2[0].toNat = n1 := by rw [← hn1, ← nB_get (by omega)]; exact N2 rfl
  have HRd2' := Lib.hid HRd2
  have HN1 := Lib.hid hn1
  clear F2 HRd2 hg2 hR1 hB1 hT1 hz1 N2 hn1
  go_wp2_with fail
  refine (HC.out _ _ _ _ n1 (by omega) hT2 HRd2'.out).mono ?_
  rintro e w3 ⟨x3, r3, b3, rfl, X3, HRd3, F3, -, hT3, hg3⟩
  have hR3 := hR2.kept hg3 (by simp)
  have hB3 := hB2.grown hg3 hB2.size (fun k e => by cases e; omega)
  have hz3 : w.heap.size + 2 ≤ w3.heap.size := by have := hg3.size; omega
  have F3' := Lib.hid F3
  have HRd3' := Lib.hid HRd3
  obtain ⟨D, hD⟩ : ∃ q, w3.heap.size = q := ⟨_, rfl⟩
  obtain ⟨w4', e4⟩ : ∃ q, q = w3.alloc (.cells #[.string x3, .slice none 0 0, .slice none 0 0] 35) := ⟨_, rfl⟩
  have hD4 : w4'.heap.size = D + 1 := by rw [e4, ← hD]; simp
  have hO4 : Obj w4' D 35 #[.string x3, .slice none 0 0, .slice none 0 0] := by rw [e4, ← hD]; exact Obj.new _ _ _
  have hR4 : Obj w4' w.heap.size 35 #[.string ⟨#[]⟩, .slice none 0 0, .slice none 0 0] := by rw [e4]; exact hR3.alloc _
  have hT4 : Obj w4' (w.heap.size + 1) 97 #[.string r3, .bool b3] := by rw [e4]; exact hT3.alloc _
  have hB4 : Below w.heap.size w w4' := by rw [e4]; exact hB3.alloc (by omega) _
  have hDz : w.heap.size + 2 ≤ D := by omega
  clear F3 HRd3 hg3 hR2 hB2 hT2 hz2
  go_wp2_with fail
  rw [← e4]
  clear e4 hD hR3 hT3 hB3 hz3
  refine (HC.out _ _ _ _ 1 (by decide) hT4 HRd3'.out).mono ?_
  rintro e w5 ⟨x5, r5, b5, rfl, X5, HRd5, F5, N5, hT5, hg5⟩
  have hR5 := hR4.kept hg5 (by simp)
  have hO5 := hO4.kept hg5 (by simp; omega)
  have hB5 := hB4.grown hg5 hB4.size (fun k e => by cases e; omega)
  have hz5 : D + 1 ≤ w5.heap.size := by have := hg5.size; omega
  have F5' := Lib.hid F5
  have HRd5' := Lib.hid HRd5
  obtain ⟨n2, hn2⟩ : ∃ q, m2 s = q := ⟨_, rfl⟩
  have b2 : n2 < 256 := by rw [← hn2]; exact nB_lt s _
  have i5 : x5[0].toNat = n2 := by rw [← hn2, ← nB_get (by omega), N5 rfl]; unfold m2 a1; rw [HN1.out]
  obtain ⟨P, hP⟩ : ∃ q, (n2 + 7) / 8 = q := ⟨_, rfl⟩
  have r2 : ((n2 : Int) + 7) / 8 = (P : Int) := by omega
  have HN2 := Lib.hid hn2
  have HP := Lib.hid hP
  have hPb : P ≤ 32 := by omega
  clear F5 HRd5 hg5 hR4 hO4 hB4 hT4 N5 hn2 hP
  go_wp2_with fail
  refine (HC.out _ _ _ _ P (by omega) hT5 HRd5'.out).mono ?_
  rintro e w6 ⟨x6, r6, b6, rfl, X6, HRd6, F6, -, hT6, hg6⟩
  have hR6 := hR5.kept hg6 (by simp)
  have hO6 := hO5.kept hg6 (by simp; omega)
  have hB6 := hB5.grown hg6 hB5.size (fun k e => by cases e; omega)
  have hz6 : D + 1 ≤ w6.heap.size := by have := hg6.size; omega
  have F6' := Lib.hid F6
  have HRd6' := Lib.hid HRd6
  have HX6 := Lib.hid X6
  clear X6 F6 HRd6 hg6 hR5 hO5 hB5 hT5 hz5 r2
  go_wp2_with fail
  go_loopw [9, 29] (fun _ i wr => ∃ (k : Nat) (v1 : Value), k ≤ n2 ∧ i = .int .i64 k ∧ Obj wr w.heap.size 35 #[.string ⟨#[]⟩, .slice none 0 0, .slice none 0 0] ∧ Obj wr (w.heap.size + 1) 97 #[.string r6, .bool b6] ∧ Obj wr D 35 #[.string x3, v1, .slice none 0 0] ∧ wr.ownsRow (w.heap.size + 2) 4 1 v1 k ((bitsP x6 0 k).map Value.bool) ∧ Below w.heap.size w wr ∧ D + 1 ≤ wr.heap.size) (fun _ i _ => n2 - (intOf i).toNat)
  case atStart => exact ⟨0, _, Nat.zero_le _, rfl, hR6, hT6, hO6, World.ownsRow_nil _ _ _ _, hB6, hz6⟩
  case round =>
    clear hR6 hT6 hO6 hB6 hz6
    obtain ⟨k, v1, hk, rfl, hR, hT, hO, hown, hb, hzz⟩ := hrel
    by_cases hlt : k < n2
    · have c1 := hO.cell 1
      simp only [List.getElem?_toArray, List.getElem?_cons_zero, List.getElem?_cons_succ] at c1
      have f1 := hO.frozen 1
      have hz1 : D < wr.heap.size := by omega
      obtain ⟨X, hXe⟩ : ∃ X, X = k / 8 := ⟨_, rfl⟩
      have hX : X < x6.size := by have := HP.out; have := HX6.out; omega
      obtain ⟨q, hq⟩ : ∃ q, nB x6 X = q := ⟨_, rfl⟩
      have hq2 : x6[X].toNat = q := by rw [← hq]; exact (nB_get hX).symm
      have hqb : q < 256 := by rw [← hq]; exact nB_lt x6 _
      obtain ⟨R8, hR8⟩ : ∃ R8, k % 8 = R8 := ⟨_, rfl⟩
      have g1 : IntKind.i64.wrap ((k : Int) / 8) = (X : Int) := by rw [IntWalk.i64_in _ (by omega)]; omega
      have g3 : (0 : Int) ≤ (X : Int) := by omega
      have g4 : (X : Int) < (x6.size : Int) := by omega
      have g5 : IntKind.i64.wrap ((k : Int).tmod 8) = (R8 : Int) := by rw [Int.tmod_eq_emod_of_nonneg (by omega), IntWalk.i64_in _ (by omega)]; omega
      have g9 : (k : Int).tmod 8 = (R8 : Int) := by rw [Int.tmod_eq_emod_of_nonneg (by omega)]; omega
      have g6 : R8 < 8 := by omega
      have g7 : (0 : Int) ≤ (R8 : Int) := by omega
      have g8 : ¬ (R8 : Int) < 0 := by omega
      have hbt : bitsP x6 0 (k + 1) = bitsP x6 0 k ++ [bitAt q R8] := by rw [bitsP_snoc, Nat.zero_add, ← hXe, hR8, hq]
      have HB := Lib.hid hbt
      clear hXe hR8 hq hbt i5 i2
      have hbase : w.heap.size + 2 ≤ (wr.alloc (.cells #[.bool (bitAt q R8)] 4)).heap.size := by simp; omega
      obtain ⟨i0, hi, hzz0, hzz1, hzz2⟩ := info_parts infoBool
      go_wp2_with fail
      go_region_law (refine step_append_lies _ (by rfl) _ _ _ (by rfl) (w.heap.size + 2) 4 i0 _ 1 1 Try.underlying28 hi hzz0 hzz1 hzz2 rfl (by omega) v1 k _ (by rfl) ((World.ownsRow.alloc hown _).drew) ⟨wr.heap.size, 0, none⟩ 1 1 [_] (by rfl) (by rfl) (World.news_of_block (cs := #[_]) (t := 4) (fr := (0, 0)) (heap_alloc_new wr _)) (by simp [Value.oneCell']) (by omega) (by unfold maxLen; omega) (by omega) (by simp; omega) (wr.heap.size + 1) (by simp) ?_; intro gg cap w1 hown1 hgrow hat hltg; have hR1 := (hR.alloc _).drew.kept hgrow (hR.not_row (by decide) hown); have hT1 := (hT.alloc _).drew.kept hgrow (hT.not_row (by decide) hown); have hO1 := (hO.alloc _).drew.kept hgrow (hO.not_row (by decide) hown); have o1 := hO1.cell 1; simp only [List.getElem?_toArray, List.getElem?_cons_zero, List.getElem?_cons_succ] at o1; have of := hO1.frozen 1)
      all_goals
        obtain ⟨hbw, hzw⟩ := app_end (O := D) (off := 1) (u := .slice (some ⟨gg, 0, none⟩) (k + 1) cap) hb hgrow hown (by omega) (by omega)
        rw [bit_eq q hqb R8 g6, ← List.map_singleton (f := Value.bool), ← List.map_append, ← HB.out] at hown1
        have hO2 := hO1.set 1 (.slice (some ⟨gg, 0, none⟩) (k + 1) cap)
        simp only [List.setIfInBounds_toArray, List.set_cons_succ, List.set_cons_zero] at hO2
        have hR2 := hR1.far (b := D) (by omega) 1 (.slice (some ⟨gg, 0, none⟩) (k + 1) cap)
        have hT2 := hT1.far (b := D) (by omega) 1 (.slice (some ⟨gg, 0, none⟩) (k + 1) cap)
        have ho2 := hown1.kept (grownBy_set w1 D 1 (.slice (some ⟨gg, 0, none⟩) (k + 1) cap)) (.inr (hO1.not_row (by decide) hown1).symm)
        go_wp2
        go_roundw
        case rel => exact ⟨k + 1, _, by omega, by go_num, hR2, hT2, hO2, ho2, hbw, by omega⟩
        case measure => simp [intOf] <;> omega
    · obtain rfl : k = n2 := by omega
      clear hlt
      go_wp2_with fail
      refine (HC.out _ _ _ _ 1 (by decide) hT HRd6'.out).mono ?_
      rintro e w7 ⟨x7, r7, b7, rfl, X7, HRd7, F7, N7, hT7, hg7⟩
      have hR7 := hR.kept hg7 (by simp)
      have hO7 := hO.kept hg7 (by simp; omega)
      have hown7 := hown.kept hg7 (.inr (hT.not_row (by decide) hown).symm)
      have hB7 := hb.grown hg7 hb.size (fun k e => by cases e; omega)
      have hz7 : D + 1 ≤ w7.heap.size := by have := hg7.size; omega
      have F7' := Lib.hid F7
      have HRd7' := Lib.hid HRd7
      obtain ⟨A2, hA2⟩ : ∃ q, a2 s = q := ⟨_, rfl⟩
      have e2 : A2 = 4 + 1 + n1 + 1 := by rw [← hA2]; unfold a2 a1; rw [HN1.out]
      obtain ⟨n3, hn3⟩ : ∃ q, m3 s = q := ⟨_, rfl⟩
      have b3' : n3 < 256 := by rw [← hn3]; exact nB_lt s _
      have i7 : x7[0].toNat = n3 := by rw [← hn3, ← nB_get (by omega), N7 rfl]; unfold m3 a3; rw [hA2, HN2.out, HP.out, e2]
      obtain ⟨A4, hA4⟩ : ∃ q, a4 s = q := ⟨_, rfl⟩
      have e4 : A4 = A2 + P + 1 := by rw [← hA4]; unfold a4 a3; rw [hA2, HN2.out, HP.out]
      have HRd8 : Rd s A4 r7 b7 := by have h := HRd7; rw [show 4 + 1 + n1 + 1 + P + 1 = A4 by omega] at h; exact h
      have HA2 := Lib.hid hA2
      have HA4 := Lib.hid hA4
      have HE2 := Lib.hid e2
      have HE4 := Lib.hid e4
      have HN3 := Lib.hid hn3
      have zA4 : A4 ≤ 1048576 := by omega
      have HRd8' := Lib.hid HRd8
      clear F7 HRd7 hg7 hR hO hown hb hT hzz N7 hn3 hA2 hA4 e2 e4 HRd8 i5 i2
      go_wp2_with fail
      go_loopw [10, 50] (fun _ i wr => ∃ (j : Nat) (v2 : Value) (xs : List Nat) (r : ByteArray) (b : Bool), j ≤ n3 ∧ i = .int .i64 j ∧ xs.length = j ∧ Obj wr w.heap.size 35 #[.string ⟨#[]⟩, .slice none 0 0, .slice none 0 0] ∧ Obj wr (w.heap.size + 1) 97 #[.string r, .bool b] ∧ Obj wr D 35 #[.string x3, v1, v2] ∧ wr.ownsRow (w.heap.size + 2) 4 1 v1 k ((bitsP x6 0 k).map Value.bool) ∧ wr.ownsRow (w.heap.size + 2) 58 1 v2 j (xs.map (Value.float .f32)) ∧ Hid (Rd s (A4 + 4 * j) r b) ∧ Hid (b = false → b7 = false ∧ xs = softP s A4 j) ∧ Hid (∀ x ∈ xs, x < 4294967296) ∧ Below w.heap.size w wr ∧ D + 1 ≤ wr.heap.size) (fun _ i _ => n3 - (intOf i).toNat)
      case atStart => exact ⟨0, _, [], r7, b7, Nat.zero_le _, rfl, rfl, hR7, hT7, hO7, hown7, World.ownsRow_nil _ _ _ _, Lib.hid HRd8'.out, Lib.hid (fun h => ⟨h, rfl⟩), Lib.hid (by simp), hB7, hz7⟩
      case round =>
        clear hR7 hT7 hO7 hown7 hB7 hz7
        obtain ⟨j, v2, xs, r, b, hj, rfl, hxl, hR, hT, hO, hown, hown2, HRd, HX, HF, hb, hzz⟩ := hrel
        by_cases hlt : j < n3
        · go_wp2_with fail
          refine (HC.out _ _ _ _ 4 (by decide) hT HRd.out).mono ?_
          rintro e w8 ⟨x8, r8, b8, rfl, X8, HRd8, F8, -, hT8, hg8⟩
          have hR8 := hR.kept hg8 (by simp)
          have hO8 := hO.kept hg8 (by simp; omega)
          have hown8 := hown.kept hg8 (.inr (hT.not_row (by decide) hown).symm)
          have hown28 := hown2.kept hg8 (.inr (hT.not_row (by decide) hown2).symm)
          have hB8 := hb.grown hg8 hb.size (fun k e => by cases e; omega)
          have hz8 : D + 1 ≤ w8.heap.size := by have := hg8.size; omega
          have F8' := Lib.hid F8
          have HRd8'' := Lib.hid HRd8
          have x0 : 0 < x8.size := by omega
          have x1' : 1 < x8.size := by omega
          have x2' : 2 < x8.size := by omega
          have x3' : 3 < x8.size := by omega
          have l0 : (0 : Int) < (x8.size : Int) := by omega
          have l1 : (1 : Int) < (x8.size : Int) := by omega
          have l2 : (2 : Int) < (x8.size : Int) := by omega
          have l3 : (3 : Int) < (x8.size : Int) := by omega
          have hX8 := Lib.hid X8
          clear X8
          obtain ⟨q0, hq0⟩ : ∃ q, nB x8 0 = q := ⟨_, rfl⟩
          obtain ⟨q1, hq1⟩ : ∃ q, nB x8 1 = q := ⟨_, rfl⟩
          obtain ⟨q2, hq2⟩ : ∃ q, nB x8 2 = q := ⟨_, rfl⟩
          obtain ⟨q3, hq3⟩ : ∃ q, nB x8 3 = q := ⟨_, rfl⟩
          have y0 : x8[0].toNat = q0 := by rw [← hq0]; exact (nB_get x0).symm
          have y1 : x8[1].toNat = q1 := by rw [← hq1]; exact (nB_get x1').symm
          have y2 : x8[2].toNat = q2 := by rw [← hq2]; exact (nB_get x2').symm
          have y3 : x8[3].toNat = q3 := by rw [← hq3]; exact (nB_get x3').symm
          have u0 : q0 < 256 := by rw [← hq0]; exact nB_lt x8 _
          have u1 : q1 < 256 := by rw [← hq1]; exact nB_lt x8 _
          have u2 : q2 < 256 := by rw [← hq2]; exact nB_lt x8 _
          have u3 : q3 < 256 := by rw [← hq3]; exact nB_lt x8 _
          obtain ⟨W4, hW4⟩ : ∃ q, w4 x8 0 = q := ⟨_, rfl⟩
          have hWv : q0 + 256 * q1 + 65536 * q2 + 16777216 * q3 = W4 := by rw [← hW4, ← hq0, ← hq1, ← hq2, ← hq3]; rfl
          have hWb : W4 < 4294967296 := by omega
          have HW := Lib.hid hW4
          obtain ⟨Y1, hY1⟩ : ∃ q, q0 + 256 * q1 = q := ⟨_, rfl⟩
          obtain ⟨Y2, hY2⟩ : ∃ q, Y1 + 65536 * q2 = q := ⟨_, rfl⟩
          have o8 : bits .or .u32 (q0 : Int) ((q1 : Int) * 256) = (Y1 : Int) := by rw [← hY1]; exact or8 u0 u1
          have o16 : bits .or .u32 (Y1 : Int) ((q2 : Int) * 65536) = (Y2 : Int) := by rw [← hY2]; exact or16 (by omega) u2
          have o24 : bits .or .u32 (Y2 : Int) ((q3 : Int) * 16777216) = (W4 : Int) := by rw [← hWv, or24 (by omega) u3]; omega
          have hfb := fun W => run_f32from W4 W
          have v0 : IntKind.u32.wrap (q0 : Int) = (q0 : Int) := IntWalk.u32_in _ (by omega)
          have v1' : IntKind.u32.wrap (q1 : Int) = (q1 : Int) := IntWalk.u32_in _ (by omega)
          have v2' : IntKind.u32.wrap (q2 : Int) = (q2 : Int) := IntWalk.u32_in _ (by omega)
          have v3 : IntKind.u32.wrap (q3 : Int) = (q3 : Int) := IntWalk.u32_in _ (by omega)
          have s1 : IntKind.u32.wrap ((q1 : Int) * 256) = (q1 : Int) * 256 := IntWalk.u32_in _ (by omega)
          have s2 : IntKind.u32.wrap ((q2 : Int) * 65536) = (q2 : Int) * 65536 := IntWalk.u32_in _ (by omega)
          have s3 : IntKind.u32.wrap ((q3 : Int) * 16777216) = (q3 : Int) * 16777216 := IntWalk.u32_in _ (by omega)
          have c1 := hO8.cell 2
          simp only [List.getElem?_toArray, List.getElem?_cons_zero, List.getElem?_cons_succ] at c1
          have f1 := hO8.frozen 2
          have hz1 : D < w8.heap.size := by omega
          obtain ⟨i0, hi, hzz0, hzz1, hzz2⟩ := info_parts infoFloat32
          clear F8 HRd8 hg8 hR hO hown hown2 hb hT hzz hY1 hY2 hWv hW4 hq0 hq1 hq2 hq3 i7
          go_wp2_with fail
          have q63 := Lib.hid (show j + 1 ≤ maxLen by unfold maxLen; omega)
          have qb := Lib.hid (show (j + 1) * 4 ≤ 140737488355328 by omega)
          have qbase := Lib.hid (show w.heap.size + 2 ≤ ((w8.alloc (.cells #[.float .f32 W4] 58)).drew).heap.size by show _ ≤ (w8.alloc _).heap.size; simp; omega)
          have qH := Lib.hid (show ((w8.alloc (.cells #[.float .f32 W4] 58)).drew).heap.size = w8.heap.size + 1 by show (w8.alloc _).heap.size = _; simp)
          have qown : Hid (((w8.alloc (.cells #[.float .f32 W4] 58)).drew).ownsRow (w.heap.size + 2) 58 1 v2 j (xs.map (Value.float .f32))) := Lib.hid ((World.ownsRow.alloc hown28 _).drew)
          have qnews : Hid (∀ i u, [Value.float .f32 W4][i]? = some u → ((w8.alloc (.cells #[.float .f32 W4] 58)).drew).cell? ((⟨w8.heap.size, 0, none⟩ : Addr).add i) = some u) := Lib.hid (World.news_of_block (cs := #[.float .f32 W4]) (t := 58) (fr := (0, 0)) (heap_alloc_new w8 _))
          have qone : Hid (∀ u ∈ [Value.float .f32 W4], u.oneCell' = true) := Lib.hid (by simp [Value.oneCell'])
          have qR : Hid (Obj ((w8.alloc (.cells #[.float .f32 W4] 58)).drew) w.heap.size 35 #[.string ⟨#[]⟩, .slice none 0 0, .slice none 0 0]) := Lib.hid (hR8.alloc _).drew
          have qT : Hid (Obj ((w8.alloc (.cells #[.float .f32 W4] 58)).drew) (w.heap.size + 1) 97 #[.string r8, .bool b8]) := Lib.hid (hT8.alloc _).drew
          have qO : Hid (Obj ((w8.alloc (.cells #[.float .f32 W4] 58)).drew) D 35 #[.string x3, v1, v2]) := Lib.hid (hO8.alloc _).drew
          have qow1 : Hid (((w8.alloc (.cells #[.float .f32 W4] 58)).drew).ownsRow (w.heap.size + 2) 4 1 v1 k ((bitsP x6 0 k).map Value.bool)) := Lib.hid ((World.ownsRow.alloc hown8 _).drew)
          have qR8 := Lib.hid hR8
          have qT8 := Lib.hid hT8
          have qO8 := Lib.hid hO8
          have qo8 := Lib.hid hown8
          have qo28 := Lib.hid hown28
          have qB8 := Lib.hid hB8
          clear hR8 hT8 hO8 hown8 hown28 hB8
          refine wp_region_any (by kernel_rfl) ?_
          change wpAny _ _ _ _ _ _ _ (World.drew _)
          refine wpAny_take (i := 0) (v := .pointer (some ⟨D, 2, none⟩)) rfl (by kernel_rfl) (by kernel_rfl) (by kernel_rfl) (fun _ _ _ h => h) (Or.inl ⟨by rfl, fun w' => by go_simp⟩) ?_
          simp only [Act.put, List.setIfInBounds_toArray, List.set_cons_succ, List.set_cons_zero]
          refine wpAny_take (i := 2) (v := .string x8) rfl (by kernel_rfl) (by kernel_rfl) (by kernel_rfl) (fun _ _ _ h => h) (Or.inl ⟨by rfl, fun w' => by go_simp⟩) ?_
          simp only [Act.put, List.setIfInBounds_toArray, List.set_cons_succ, List.set_cons_zero]
          refine wpAny_take (i := 3) (v := .int .u8 (q0 : Int)) rfl (by kernel_rfl) (by kernel_rfl) (by kernel_rfl) (fun _ _ _ h => h) (Or.inl ⟨by rfl, fun w' => by go_simp⟩) ?_
          simp only [Act.put, List.setIfInBounds_toArray, List.set_cons_succ, List.set_cons_zero]
          refine wpAny_take (i := 4) (v := .int .u32 (q0 : Int)) rfl (by kernel_rfl) (by kernel_rfl) (by kernel_rfl) (fun _ _ _ h => h) (Or.inl ⟨by rfl, fun w' => by go_simp⟩) ?_
          simp only [Act.put, List.setIfInBounds_toArray, List.set_cons_succ, List.set_cons_zero]
          refine wpAny_take (i := 5) (v := .string x8) rfl (by kernel_rfl) (by kernel_rfl) (by kernel_rfl) (fun _ _ _ h => h) (Or.inl ⟨by rfl, fun w' => by go_simp⟩) ?_
          simp only [Act.put, List.setIfInBounds_toArray, List.set_cons_succ, List.set_cons_zero]
          refine wpAny_take (i := 6) (v := .int .u8 (q1 : Int)) rfl (by kernel_rfl) (by kernel_rfl) (by kernel_rfl) (fun _ _ _ h => h) (Or.inl ⟨by rfl, fun w' => by go_simp⟩) ?_
          simp only [Act.put, List.setIfInBounds_toArray, List.set_cons_succ, List.set_cons_zero]
          refine wpAny_take (i := 7) (v := .int .u32 (q1 : Int)) rfl (by kernel_rfl) (by kernel_rfl) (by kernel_rfl) (fun _ _ _ h => h) (Or.inl ⟨by rfl, fun w' => by go_simp⟩) ?_
          simp only [Act.put, List.setIfInBounds_toArray, List.set_cons_succ, List.set_cons_zero]
          refine wpAny_take (i := 8) (v := .int .u32 ((q1 : Int) * 256)) rfl (by kernel_rfl) (by kernel_rfl) (by kernel_rfl) (fun _ _ _ h => h) (Or.inl ⟨by rfl, fun w' => by go_simp⟩) ?_
          simp only [Act.put, List.setIfInBounds_toArray, List.set_cons_succ, List.set_cons_zero]
          refine wpAny_take (i := 9) (v := .int .u32 (Y1 : Int)) rfl (by kernel_rfl) (by kernel_rfl) (by kernel_rfl) (fun _ _ _ h => h) (Or.inl ⟨by rfl, fun w' => by go_simp⟩) ?_
          simp only [Act.put, List.setIfInBounds_toArray, List.set_cons_succ, List.set_cons_zero]
          refine wpAny_take (i := 10) (v := .string x8) rfl (by kernel_rfl) (by kernel_rfl) (by kernel_rfl) (fun _ _ _ h => h) (Or.inl ⟨by rfl, fun w' => by go_simp⟩) ?_
          simp only [Act.put, List.setIfInBounds_toArray, List.set_cons_succ, List.set_cons_zero]
          refine wpAny_take (i := 11) (v := .int .u8 (q2 : Int)) rfl (by kernel_rfl) (by kernel_rfl) (by kernel_rfl) (fun _ _ _ h => h) (Or.inl ⟨by rfl, fun w' => by go_simp⟩) ?_
          simp only [Act.put, List.setIfInBounds_toArray, List.set_cons_succ, List.set_cons_zero]
          refine wpAny_take (i := 12) (v := .int .u32 (q2 : Int)) rfl (by kernel_rfl) (by kernel_rfl) (by kernel_rfl) (fun _ _ _ h => h) (Or.inl ⟨by rfl, fun w' => by go_simp⟩) ?_
          simp only [Act.put, List.setIfInBounds_toArray, List.set_cons_succ, List.set_cons_zero]
          refine wpAny_take (i := 13) (v := .int .u32 ((q2 : Int) * 65536)) rfl (by kernel_rfl) (by kernel_rfl) (by kernel_rfl) (fun _ _ _ h => h) (Or.inl ⟨by rfl, fun w' => by go_simp⟩) ?_
          simp only [Act.put, List.setIfInBounds_toArray, List.set_cons_succ, List.set_cons_zero]
          refine wpAny_take (i := 14) (v := .int .u32 (Y2 : Int)) rfl (by kernel_rfl) (by kernel_rfl) (by kernel_rfl) (fun _ _ _ h => h) (Or.inl ⟨by rfl, fun w' => by go_simp⟩) ?_
          simp only [Act.put, List.setIfInBounds_toArray, List.set_cons_succ, List.set_cons_zero]
          refine wpAny_take (i := 15) (v := .string x8) rfl (by kernel_rfl) (by kernel_rfl) (by kernel_rfl) (fun _ _ _ h => h) (Or.inl ⟨by rfl, fun w' => by go_simp⟩) ?_
          simp only [Act.put, List.setIfInBounds_toArray, List.set_cons_succ, List.set_cons_zero]
          refine wpAny_take (i := 16) (v := .int .u8 (q3 : Int)) rfl (by kernel_rfl) (by kernel_rfl) (by kernel_rfl) (fun _ _ _ h => h) (Or.inl ⟨by rfl, fun w' => by go_simp⟩) ?_
          simp only [Act.put, List.setIfInBounds_toArray, List.set_cons_succ, List.set_cons_zero]
          refine wpAny_take (i := 17) (v := .int .u32 (q3 : Int)) rfl (by kernel_rfl) (by kernel_rfl) (by kernel_rfl) (fun _ _ _ h => h) (Or.inl ⟨by rfl, fun w' => by go_simp⟩) ?_
          simp only [Act.put, List.setIfInBounds_toArray, List.set_cons_succ, List.set_cons_zero]
          refine wpAny_take (i := 18) (v := .int .u32 ((q3 : Int) * 16777216)) rfl (by kernel_rfl) (by kernel_rfl) (by kernel_rfl) (fun _ _ _ h => h) (Or.inl ⟨by rfl, fun w' => by go_simp⟩) ?_
          simp only [Act.put, List.setIfInBounds_toArray, List.set_cons_succ, List.set_cons_zero]
          refine wpAny_take (i := 19) (v := .int .u32 (W4 : Int)) rfl (by kernel_rfl) (by kernel_rfl) (by kernel_rfl) (fun _ _ _ h => h) (Or.inl ⟨by rfl, fun w' => by go_simp⟩) ?_
          simp only [Act.put, List.setIfInBounds_toArray, List.set_cons_succ, List.set_cons_zero]
          refine wpAny_take (i := 20) (v := .float .f32 W4) rfl (by kernel_rfl) (by kernel_rfl) (by kernel_rfl) (fun _ _ _ h => h) (Or.inl ⟨by rfl, fun w' => by go_simp⟩) ?_
          simp only [Act.put, List.setIfInBounds_toArray, List.set_cons_succ, List.set_cons_zero]
          refine wpAny_ready (rs := [1, 21]) (by kernel_rfl) (by simp) ?_
          refine AllReady.cons rfl (fun K hK => ?_) ?_
          · go_simp
            refine hK _ _ ?_
            clear hK K
            refine wpAny_ready (rs := [21]) (by kernel_rfl) (by simp) ?_
            refine AllReady.cons rfl (fun K hK => ?_) AllReady.nil
            go_simp
            refine hK _ _ ?_
            clear hK K
            refine wpAny_ready (rs := [22]) (by kernel_rfl) (by simp) ?_
            refine AllReady.cons rfl (fun K hK => ?_) AllReady.nil
            refine step_append_lies ((w8.alloc (.cells #[.float .f32 W4] 58)).drew) (by rfl) _ _ _ (by rfl) (w.heap.size + 2) 58 i0 _ 1 4 Try.underlying29 hi hzz0 hzz1 hzz2 rfl Nat.one_pos v2 j _ (by rfl) qown.out ⟨w8.heap.size, 0, none⟩ 1 1 [Value.float .f32 W4] (by rfl) rfl qnews.out qone.out Nat.one_pos q63.out qb.out qbase.out (w8.heap.size + 1) qH.out ?_
            intro gg cap w1 hown1 hgrow hat hltg
            have hR1 := qR.out.kept hgrow (qR8.out.not_row (by decide) qo28.out)
            have hT1 := qT.out.kept hgrow (qT8.out.not_row (by decide) qo28.out)
            have hO1 := qO.out.kept hgrow (qO8.out.not_row (by decide) qo28.out)
            have how1 := qow1.out.kept hgrow (own_types qo8.out qo28.out (by decide))
            have o1 := hO1.cell 2
            simp only [List.getElem?_toArray, List.getElem?_cons_zero, List.getElem?_cons_succ] at o1
            have of := hO1.frozen 2
            refine hK _ _ ?_
            clear hK K
            simp only [Act.put, List.setIfInBounds_toArray, List.set_cons_succ, List.set_cons_zero]
            refine wpAny_take (i := 23) (v := .pointer (some ⟨D, 2, none⟩)) rfl (by kernel_rfl) (by kernel_rfl) (by kernel_rfl) (fun _ _ _ h => h) (Or.inl ⟨by rfl, fun w' => by go_simp⟩) ?_
            simp only [Act.put, List.setIfInBounds_toArray, List.set_cons_succ, List.set_cons_zero]
            refine wpAny_ready (rs := [24]) (by kernel_rfl) (by simp) ?_
            refine AllReady.cons rfl (fun K hK => ?_) AllReady.nil
            go_simp
            refine hK _ _ ?_
            clear hK K
            refine wpAny_done (by kernel_rfl) ?_ _
            obtain ⟨hbw, hzw⟩ := app_end (O := D) (off := 2) (u := .slice (some ⟨gg, 0, none⟩) (j + 1) cap) qB8.out hgrow qo28.out (by omega) (by omega)
            rw [← List.map_singleton (f := Value.float .f32), ← List.map_append] at hown1
            have hO2 := hO1.set 2 (.slice (some ⟨gg, 0, none⟩) (j + 1) cap)
            simp only [List.setIfInBounds_toArray, List.set_cons_succ, List.set_cons_zero] at hO2
            have hR2 := hR1.far (b := D) (by omega) 2 (.slice (some ⟨gg, 0, none⟩) (j + 1) cap)
            have hT2 := hT1.far (b := D) (by omega) 2 (.slice (some ⟨gg, 0, none⟩) (j + 1) cap)
            have ho2 := hown1.kept (grownBy_set w1 D 2 (.slice (some ⟨gg, 0, none⟩) (j + 1) cap)) (.inr (hO1.not_row (by decide) hown1).symm)
            have ho1 := how1.kept (grownBy_set w1 D 2 (.slice (some ⟨gg, 0, none⟩) (j + 1) cap)) (.inr (hO1.not_row (by decide) how1).symm)
            go_wp2
            go_roundw
            case rel =>
              refine ⟨j + 1, _, xs ++ [W4], _, _, by omega, by go_num, by simp [hxl], hR2, hT2, hO2, ho1, ho2, Lib.hid HRd8''.out, Lib.hid ?_, Lib.hid ?_, hbw, by omega⟩
              · intro h8
                obtain ⟨g1, g2⟩ := F8'.out h8
                obtain ⟨g3, g4⟩ := HX.out g1
                refine ⟨g3, ?_⟩
                have g5 := (HRd8''.out.2.1 h8).1
                rw [softP_snoc, g4, ← HW.out, g2, w4_move (by omega)]
              · intro x hx
                rw [List.mem_append] at hx
                rcases hx with hx | hx
                · exact HF.out x hx
                · obtain rfl : x = W4 := by simpa using hx
                  exact hWb
            case measure => simp [intOf] <;> omega
          refine AllReady.cons rfl (fun K hK => ?_) AllReady.nil
          · go_simp
            refine hK _ _ ?_
            clear hK K
            refine wpAny_ready (rs := [1]) (by kernel_rfl) (by simp) ?_
            refine AllReady.cons rfl (fun K hK => ?_) AllReady.nil
            go_simp
            refine hK _ _ ?_
            clear hK K
            refine wpAny_ready (rs := [22]) (by kernel_rfl) (by simp) ?_
            refine AllReady.cons rfl (fun K hK => ?_) AllReady.nil
            refine step_append_lies ((w8.alloc (.cells #[.float .f32 W4] 58)).drew) (by rfl) _ _ _ (by rfl) (w.heap.size + 2) 58 i0 _ 1 4 Try.underlying29 hi hzz0 hzz1 hzz2 rfl Nat.one_pos v2 j _ (by rfl) qown.out ⟨w8.heap.size, 0, none⟩ 1 1 [Value.float .f32 W4] (by rfl) rfl qnews.out qone.out Nat.one_pos q63.out qb.out qbase.out (w8.heap.size + 1) qH.out ?_
            intro gg cap w1 hown1 hgrow hat hltg
            have hR1 := qR.out.kept hgrow (qR8.out.not_row (by decide) qo28.out)
            have hT1 := qT.out.kept hgrow (qT8.out.not_row (by decide) qo28.out)
            have hO1 := qO.out.kept hgrow (qO8.out.not_row (by decide) qo28.out)
            have how1 := qow1.out.kept hgrow (own_types qo8.out qo28.out (by decide))
            have o1 := hO1.cell 2
            simp only [List.getElem?_toArray, List.getElem?_cons_zero, List.getElem?_cons_succ] at o1
            have of := hO1.frozen 2
            refine hK _ _ ?_
            clear hK K
            simp only [Act.put, List.setIfInBounds_toArray, List.set_cons_succ, List.set_cons_zero]
            refine wpAny_take (i := 23) (v := .pointer (some ⟨D, 2, none⟩)) rfl (by kernel_rfl) (by kernel_rfl) (by kernel_rfl) (fun _ _ _ h => h) (Or.inl ⟨by rfl, fun w' => by go_simp⟩) ?_
            simp only [Act.put, List.setIfInBounds_toArray, List.set_cons_succ, List.set_cons_zero]
            refine wpAny_ready (rs := [24]) (by kernel_rfl) (by simp) ?_
            refine AllReady.cons rfl (fun K hK => ?_) AllReady.nil
            go_simp
            refine hK _ _ ?_
            clear hK K
            refine wpAny_done (by kernel_rfl) ?_ _
            obtain ⟨hbw, hzw⟩ := app_end (O := D) (off := 2) (u := .slice (some ⟨gg, 0, none⟩) (j + 1) cap) qB8.out hgrow qo28.out (by omega) (by omega)
            rw [← List.map_singleton (f := Value.float .f32), ← List.map_append] at hown1
            have hO2 := hO1.set 2 (.slice (some ⟨gg, 0, none⟩) (j + 1) cap)
            simp only [List.setIfInBounds_toArray, List.set_cons_succ, List.set_cons_zero] at hO2
            have hR2 := hR1.far (b := D) (by omega) 2 (.slice (some ⟨gg, 0, none⟩) (j + 1) cap)
            have hT2 := hT1.far (b := D) (by omega) 2 (.slice (some ⟨gg, 0, none⟩) (j + 1) cap)
            have ho2 := hown1.kept (grownBy_set w1 D 2 (.slice (some ⟨gg, 0, none⟩) (j + 1) cap)) (.inr (hO1.not_row (by decide) hown1).symm)
            have ho1 := how1.kept (grownBy_set w1 D 2 (.slice (some ⟨gg, 0, none⟩) (j + 1) cap)) (.inr (hO1.not_row (by decide) how1).symm)
            go_wp2
            go_roundw
            case rel =>
              refine ⟨j + 1, _, xs ++ [W4], _, _, by omega, by go_num, by simp [hxl], hR2, hT2, hO2, ho1, ho2, Lib.hid HRd8''.out, Lib.hid ?_, Lib.hid ?_, hbw, by omega⟩
              · intro h8
                obtain ⟨g1, g2⟩ := F8'.out h8
                obtain ⟨g3, g4⟩ := HX.out g1
                refine ⟨g3, ?_⟩
                have g5 := (HRd8''.out.2.1 h8).1
                rw [softP_snoc, g4, ← HW.out, g2, w4_move (by omega)]
              · intro x hx
                rw [List.mem_append] at hx
                rcases hx with hx | hx
                · exact HF.out x hx
                · obtain rfl : x = W4 := by simpa using hx
                  exact hWb
            case measure => simp [intOf] <;> omega
        · obtain rfl : j = n3 := by omega
          clear hlt
          obtain ⟨AA, ca, hv1, h1c⟩ := Ow.opn (w := wr) (base := w.heap.size + 2) (e := 4) (v := v1) (f := Value.bool) (xs := bitsP x6 0 k) (by unfold Ow; rw [List.length_map, bitsP_len]; exact hown)
          obtain ⟨AB, cb, hv2, h2c⟩ := Ow.opn (w := wr) (base := w.heap.size + 2) (e := 58) (v := v2) (f := Value.float .f32) (xs := xs) (by unfold Ow; rw [List.length_map, hxl]; exact hown2)
          rw [bitsP_len] at hv1 h1c
          rw [hxl] at hv2 h2c
          subst hv1 hv2
          have hbl := bitsP_len x6 0 k
          have hfl := HF.out
          obtain ⟨bs, hbs⟩ : ∃ q, bitsP x6 0 k = q := ⟨_, rfl⟩
          rw [hbs] at h1c hbl hown
          have hnmz : x3.size ≤ 1048576 := by omega
          have hs1 : Sl wr wr.heap.size AA (bs.map Value.bool) := sl_of_own h1c
          have hs2 : Sl wr wr.heap.size AB (xs.map (Value.float .f32)) := sl_of_own h2c
          have HS := Lib.hid (impl_StoreSaved_c wr x3 hnmz AA k ca bs hbl (by omega) hs1 (rowA_of h1c) AB j cb xs hxl (by omega) hs2 hfl)
          have HBS := Lib.hid hbs
          obtain ⟨d0, d1, d2, _⟩ := obj3 hO
          clear hbs hs1 hs2 hfl
          obtain ⟨N, hN⟩ : ∃ q, A4 + 4 * j + 2 = q := ⟨_, rfl⟩
          have hA5 : a5 s + 2 = N := by unfold a5; rw [HA4.out, HN3.out]; exact hN
          have hRdj := HRd.out
          have hpar : b = false → A4 + 4 * j ≤ s.size ∧ parseD s = (x3, bs, xs) := fun h => by
            obtain ⟨g1, g2⟩ := HX.out h
            have g0 := (hRdj.2.1 h).1
            obtain ⟨g3, _⟩ := F7'.out g1
            obtain ⟨g4, g5⟩ := F6'.out g3
            obtain ⟨g6, _⟩ := F5'.out g4
            obtain ⟨_, g8⟩ := F3'.out g6
            have e2 := HE2.out
            have e4 := HE4.out
            refine ⟨g0, ?_⟩
            unfold parseD
            rw [HA2.out, HN2.out, HA4.out, HN3.out, g2, ← HBS.out, g5, g8]
            rw [bitsP_move (e := 4 + 1 + n1 + 1 + P) (by have := HP.out; omega) (by omega)]
            unfold a1
            rw [HN1.out, ← e2]
          have hbad : b = true → beginB s = false := fun h => begin_no (by have := hRdj.2.2 h; omega)
          have HPAR := Lib.hid hpar
          have HBAD := Lib.hid hbad
          have HA5 := Lib.hid hA5
          have hNb := Lib.hid hN
          clear hpar hbad hA5 hRdj hN
          go_wp2_with fail
          refine HS.out.mono ?_
          rintro e w9 ⟨rfl, hb9⟩
          have hT9 := hT.below hb9 hT.lt
          have hR9 := hR.below hb9 hR.lt
          have hO9 := hO.below hb9 hO.lt
          have hw1 := own_below h1c hb9 (Nat.le_refl _)
          have hw2 := own_below h2c hb9 (Nat.le_refl _)
          have hb3 := hb.trans (hb9.mono hb.size)
          obtain ⟨c0, c1, c2, f0, f1, f2⟩ := obj3 hR9
          obtain ⟨d0, d1, d2, _⟩ := obj3 hO9
          have t1 := hT9.cell 1
          simp only [List.getElem?_toArray, List.getElem?_cons_zero, List.getElem?_cons_succ] at t1
          have HR9 := Lib.hid hR9
          have HW1 := Lib.hid hw1
          have HW2 := Lib.hid hw2
          clear hT hR hO hT9 hR9 hO9 hw1 hw2 hown hown2 h1c h2c
          cases hbb : b
          rotate_left
          · have HBN := Lib.hid (HBAD.out hbb)
            subst hbb
            go_wp2
            refine bodyPost_ret (v := .tuple #[.agg #[.string ⟨#[]⟩, .slice none 0 0, .slice none 0 0], .int .i64 0, .bool false]) (by unfold results; rw [Try.results51]; go_simp) rfl ?_
            exact rd_no HBN.out (st3_below hb3 (Nat.le_refl _) _ _ _)
          · obtain ⟨g0, gp⟩ := HPAR.out hbb
            subst hbb
            have HG := Lib.hid gp
            cases hv : validSavedB x3 bs xs
            · have hbn : beginB s = false := by
                by_cases hNs : N ≤ s.size
                · rw [begin_is HG.out HA5.out hNs]
                  unfold vld
                  rw [hv]
                  rfl
                · exact begin_no (by have := HA5.out; omega)
              have HBN := Lib.hid hbn
              clear hbn gp
              go_wp2
              refine bodyPost_ret (v := .tuple #[.agg #[.string ⟨#[]⟩, .slice none 0 0, .slice none 0 0], .int .i64 0, .bool false]) (by unfold results; rw [Try.results51]; go_simp) rfl ?_
              exact rd_no HBN.out (st3_below hb3 (Nat.le_refl _) _ _ _)
            · have hst : storeR x3 bs xs = storeS x3 bs xs := by unfold storeR; rw [hv]; rfl
              rw [hst]
              have hln := stS_len (nm := x3) (bs := bs) (xs := xs)
              obtain ⟨TX, hTX⟩ : ∃ q, storeS x3 bs xs = q := ⟨_, rfl⟩
              rw [hTX] at hln ⊢
              have hsz : TX.size = N := by rw [hln, X3, hbl, hxl]; have := HP.out; have := HE2.out; have := HE4.out; have := hNb.out; omega
              have hpe : Lib.hasPrefix s.data.toList TX.data.toList = beginB s := by
                rw [pre_iff hsz]
                by_cases hNs : N ≤ s.size
                · rw [begin_is HG.out HA5.out hNs]
                  unfold vld stS
                  rw [hv, hTX, decide_eq_true hNs]
                · rw [begin_no (by have := HA5.out; omega), decide_eq_false hNs]
                  rfl
              have HPE := Lib.hid hpe
              have HSZ := Lib.hid hsz
              clear hst hln hTX hsz hpe gp
              cases hbg : beginB s
              · have HBN := Lib.hid hbg
                clear hbg
                go_wp2_with fail
                refine (HasPrefix_c _ _ _).mono ?_
                rintro e w10 ⟨rfl, rfl⟩
                rw [HPE.out, HBN.out]
                go_wp2
                refine bodyPost_ret (v := .tuple #[.agg #[.string ⟨#[]⟩, .slice none 0 0, .slice none 0 0], .int .i64 0, .bool false]) (by unfold results; rw [Try.results51]; go_simp) rfl ?_
                exact rd_no HBN.out (st3_below hb3 (Nat.le_refl _) _ _ _)
              · have HBN := Lib.hid hbg
                clear hbg
                go_wp2_with fail
                refine (HasPrefix_c _ _ _).mono ?_
                rintro e w10 ⟨rfl, rfl⟩
                rw [HPE.out, HBN.out]
                go_wp2
                refine bodyPost_ret (v := .tuple #[.agg #[.string x3, .slice AA k ca, .slice AB j cb], .int .i64 (TX.size : Int), .bool true]) (by unfold results; rw [Try.results51]; go_simp) rfl ?_
                rw [HSZ.out]
                refine rd_yes HG.out HA5.out HBN.out ?_ ?_ (st3_below hb3 (Nat.le_refl _) _ _ _)
                · unfold Ow
                  rw [List.length_map, hbl]
                  exact own_base (st3_own HR9.out (by decide) HW1.out _ _ _) (by omega)
                · unfold Ow
                  rw [List.length_map, hxl]
                  exact own_base (st3_own HR9.out (by decide) HW2.out _ _ _) (by omega)

end Go.Proofs.Ytmkjlhobnlgpjaa
