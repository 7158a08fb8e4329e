/-
  Contract: what can be saved, drawn from bytes.
  Conditions: at most 1048576 bytes.
-/
import Derived.Test.YtmkjlhobnlgpjaaUA
import Derived.Test.YtmkjlhobnlgpjaaUB
import Derived.Deep.RegionHeld3
namespace Go.Proofs.Ytmkjlhobnlgpjaa
open Go.RowKit

/-- of the blocks below z only S may be turned -/
structure Gr (z S : Nat) (w w' : World) : Prop where
  os : w'.os = w.os
  tape : w'.tape = w.tape
  output : w'.output = w.output
  size : w.heap.size ≤ w'.heap.size
  block : ∀ i, i < z → i ≠ S → w'.heap[i]? = w.heap[i]?
theorem Gr.refl (z S : Nat) (w : World) : Gr z S w w := ⟨rfl, rfl, rfl, Nat.le_refl _, fun _ _ _ => rfl⟩
theorem Gr.trans {z S : Nat} {w w1 w2 : World} (h : Gr z S w w1) (g : Gr z S w1 w2) : Gr z S w w2 :=
  ⟨g.os.trans h.os, g.tape.trans h.tape, g.output.trans h.output, Nat.le_trans h.size g.size, fun i hi hn => (g.block i hi hn).trans (h.block i hi hn)⟩
theorem Gr.of_grown {z S : Nat} {w w' : World} (h : w.grownBy w' (some S)) (hz : z ≤ w.heap.size) : Gr z S w w' := ⟨h.os, h.tape, h.output, h.size, fun i hi hn => h.block i (by omega) (by simpa using hn)⟩
theorem Gr.of_far {z S T : Nat} {w w' : World} (h : w.grownBy w' (some T)) (hT : z ≤ T) (hz : z ≤ w.heap.size) : Gr z S w w' := ⟨h.os, h.tape, h.output, h.size, fun i hi _ => h.block i (by omega) (by simp; omega)⟩
theorem Gr.of_below {z S D : Nat} {w w' : World} (h : Below D w w') (hz : z ≤ D) : Gr z S w w' := ⟨h.os, h.tape, h.output, h.size, fun i hi _ => h.block i (by omega)⟩
theorem own1_opn {w : World} {base n : Nat} {e : TypeId} {v : Value} {xs : List Value} (h : w.ownsRow base e 1 v n xs) : ∃ A cap, v = .slice A n cap := by
  rcases h.2 with ⟨rfl, rfl⟩ | ⟨g, cap, cur, rfl, _⟩
  · exact ⟨_, _, rfl⟩
  · exact ⟨_, _, rfl⟩
theorem Gr.of_row {z S D : Nat} {w w' : World} {r : Option Nat} (h : w.grownBy w' r) (hr : ∀ k, r = some k → D ≤ k) (hD : z ≤ D) (hz : z ≤ w.heap.size) : Gr z S w w' := ⟨h.os, h.tape, h.output, h.size, fun i hi _ => h.block i (by omega) (fun e => by have := hr i e.symm; omega)⟩
theorem own_gr {w w' : World} {base : Nat} {e : TypeId} {size n z S : Nat} {v : Value} {xs : List Value} (h : w.ownsRow base e size v n xs) (hg : Gr z S w w') (hz : w.heap.size ≤ z) (hS : S < base) : w'.ownsRow base e size v n xs := by
  refine ⟨h.1, ?_⟩
  rcases h.2 with hn | ⟨g, cap, cur, rfl, hbg, hgg, rest⟩
  · exact .inl hn
  · have hlt := (Array.getElem?_eq_some_iff.1 hgg).1
    exact .inr ⟨g, cap, cur, rfl, hbg, by rw [hg.block g (by omega) (by omega)]; exact hgg, rest⟩
theorem OwnS.gr {w w' : World} {B z S : Nat} {r : SavH} (h : OwnS w B r) (hg : Gr z S w w') (hz : w.heap.size ≤ z) (hS : S < B) : OwnS w' B r := ⟨own_gr h.1 hg hz hS, own_gr h.2 hg hz hS⟩
theorem below_gr {D z S : Nat} {w w1 w' : World} (h : Below D w w1) (hg : Gr z S w1 w') (hz : D ≤ z) (hS : D ≤ S) : Below D w w' :=
  ⟨hg.os.trans h.os, hg.tape.trans h.tape, hg.output.trans h.output, Nat.le_trans h.size hg.size, fun i hi => (hg.block i (by omega) (by omega)).trans (h.block i hi)⟩
theorem sl_gr {w w' : World} {B z S : Nat} {A : Option Addr} {xs : List Value} (h : Sl w B A xs) (hg : Gr z S w w') (hB : B ≤ S) (hz : B ≤ z) : Sl w' B A xs :=
  h.keep fun p hp => by
    unfold World.cell?
    rw [hg.block p.block (by omega) (by omega)]
theorem Src.more {w : World} {S n cap m m' : Nat} {A : Option Addr} (h : Src w S A n cap m) (hm : m ≤ m') : Src w S A n cap m' := by
  obtain ⟨p, s, h1, h2⟩ := h
  exact ⟨p, s, by omega, h2⟩


/-- a quarter of a small number -/
def qV (x : Nat) : Nat := ((floatBits .quo .f32 (floatOfInt .f32 ((x : Int) - 16)) 1082130432).getD 0)
theorem qV_ok : ∀ x : Nat, x < 33 → floatBits .quo .f32 (floatOfInt .f32 ((x : Int) - 16)) 1082130432 = some (qV x) ∧ finB (fl .f32 (qV x)) = true ∧ qV x < 4294967296 := by decide +kernel
theorem fres_is {op : BinOp} {k : FloatKind} {x y r : Nat} (h : floatBits op k x y = some r) (t : Tape) (d : Nat) : fres op k x y t d = r := by simp [fres, h]
theorem fdr_is {op : BinOp} {k : FloatKind} {x y r : Nat} (h : floatBits op k x y = some r) : fdr op k x y = 0 := by simp [fdr, h]

/-- the round that puts one number more -/
theorem names_ok : ∀ x ∈ [(⟨#[97]⟩ : ByteArray), ⟨#[115, 111, 102, 116]⟩, ⟨#[119, 97, 121]⟩, ⟨#[122, 122]⟩], nameB x = true := by decide +kernel
theorem vld_is {s : ByteArray} {bs : List Bool} {xs : List Nat} (h : nameB s = true) (hb : bs.length ≤ 160) (hx : xs.length ≤ 160) (hf : ∀ x ∈ xs, finB (fl .f32 x) = true) : vld (s, bs, xs) = true := by
  show validSavedB s bs xs = true
  unfold validSavedB softB
  rw [h, decide_eq_true hb, decide_eq_true hx, List.all_eq_true.2 hf]
  rfl


theorem l00From_c (w : World) (A : Option Addr) (n cap : Nat) :
    Calls Try.prog 57 #[.slice A n cap] w fun e w' => e = .returned (.pointer (some ⟨w.heap.size, 0, none⟩)) ∧ Src w' w.heap.size A n cap 0 ∧ Below w.heap.size w w' ∧ w'.heap.size = w.heap.size + 1 := by
  go_enter Try.func57, Try.ntmps57
  go_wp2
  go_ret
  exact ⟨rfl, ⟨0, 0, Nat.le_refl _, by decide, by decide, Obj.new _ _ _⟩, (Below.refl _ _).alloc (Nat.le_refl _) _, by simp⟩


set_option maxRecDepth 100000 in
set_option maxHeartbeats 4000000 in
theorem B10Kept_c (w : World) (A : Option Addr) (n cap : Nat) (c : List Int) (hl : c.length = n) (hn : n ≤ 1048576) (hb : ∀ x ∈ c, 0 ≤ x ∧ x ≤ 255) (hx : Sl w w.heap.size A (c.map (Value.int .u8))) :
    Calls Try.prog 30 #[.slice A n cap] w fun e w' => ∃ v ys, e = .returned v ∧ ys.length ≤ 4 ∧ (∀ y ∈ ys, Gd (sd1 y)) ∧ (∀ y ∈ ys, OwnS w' (w.heap.size + 1) y) ∧ w'.ownsRow (w.heap.size + 1) 35 3 v ys.length (savCells ys) ∧ Below w.heap.size w w' := by
  have HX := Lib.hid hx
  have HB := Lib.hid hb
  clear hx hb
  have hpk := fun (W : World) (hW : Below w.heap.size w W) (m : Nat) (hm : m ≤ 1000) (hs : Src W w.heap.size A n cap m) (q : Int) (h1 : 1 ≤ q) (h2 : q ≤ 200) => pick_c W w.heap.size w.heap.size A n cap m c hl hn HB.out (HX.out.below hW) (Nat.le_refl _) (by omega) hs q h1 h2
  have htx := fun (W : World) (hW : Below w.heap.size w W) (m : Nat) (hm : m ≤ 1000) (hs : Src W w.heap.size A n cap m) => text_c W w.heap.size w.heap.size A n cap m c hl hn HB.out (HX.out.below hW) (Nat.le_refl _) (by omega) hs
  have hdb := fun (W : World) (hW : Below w.heap.size w W) (m : Nat) (hm : m ≤ 1000) (hs : Src W w.heap.size A n cap m) => l07DrawBits_c W w.heap.size w.heap.size A n cap m c hl hn HB.out (HX.out.below hW) (Nat.le_refl _) (by omega) hs
  have HPK := Lib.hid hpk
  have HTX := Lib.hid htx
  have HDB := Lib.hid hdb
  clear hpk htx hdb
  go_enter Try.func30, Try.ntmps30
  go_wp2_with fail
  refine (l00From_c w A n cap).mono ?_
  rintro e w1 ⟨rfl, hs1, hb1, hz1⟩
  have HS1 := Lib.hid hs1
  have ho0 : (w1.alloc (.cells #[] 35)).ownsRow (w.heap.size + 1) 35 3 (.slice (some ⟨w1.heap.size, 0, none⟩) 0 0) 0 (savCells []) := World.ownsRow_lit w1 #[] 0 (by omega) (by simp [maxLen]) rfl
  obtain ⟨w2, e2⟩ : ∃ q : World, q = w1.alloc (.cells #[] 35) := ⟨_, rfl⟩
  have hb2 : Below w1.heap.size w1 w2 := by rw [e2]; exact (Below.refl _ _).alloc (Nat.le_refl _) _
  have hz2 : w2.heap.size = w.heap.size + 2 := by rw [e2]; simp; omega
  have HS2 := Lib.hid (hs1.below hb2 (by omega))
  rw [← e2] at ho0
  go_wp2_with fail
  rw [← e2]
  rw [hz1] at ho0
  have HO0 := Lib.hid ho0
  have HB2 := Lib.hid (hb1.trans (hb2.mono (by omega)))
  clear ho0 hs1 e2 hb2 hb1 hz1 HS1
  refine (HPK.out w2 HB2.out 0 (by decide) HS2.out 5 (by decide) (by decide)).mono ?_
  rintro e w3 ⟨x, rfl, hx0, hx5, hs3, hg3⟩
  obtain ⟨K, rfl⟩ : ∃ K : Nat, x = (K : Int) := ⟨x.toNat, by omega⟩
  have hG3 := Gr.of_grown hg3 (Nat.le_refl _)
  have hz3 := hg3.size
  have HO3 := Lib.hid (own_gr HO0.out hG3 (Nat.le_refl _) (by omega))
  have HB3 := Lib.hid (below_gr HB2.out hG3 (by omega) (Nat.le_refl _))
  have HS3 := Lib.hid hs3
  clear hs3 hg3 hG3 HO0 HB2 HS2 hx0
  go_wp2_with fail
  go_loopw [4, 5] (fun v i wr => ∃ (k : Nat) (ys : List SavH), i = .int .i64 k ∧ Hid (ys.length + k ≤ 4) ∧ Hid (∀ y ∈ ys, Gd (sd1 y)) ∧ Hid (∀ y ∈ ys, OwnS wr (w.heap.size + 1) y) ∧ Hid (wr.ownsRow (w.heap.size + 1) 35 3 v ys.length (savCells ys)) ∧ Hid (Src wr w.heap.size A n cap (30 * ys.length + 1)) ∧ Hid (Below w.heap.size w wr) ∧ w.heap.size + 2 ≤ wr.heap.size) (fun _ i _ => (intOf i).toNat)
  case atStart => exact ⟨K, [], rfl, Lib.hid (by simp; omega), Lib.hid (by simp), Lib.hid (by simp), HO3, HS3, HB3, by omega⟩
  case round =>
    clear HO3 HS3 HB3 hz3 hz2
    obtain ⟨k, ys, rfl, HL, HG, HI, HO, HS, HB, hz⟩ := hrel
    obtain ⟨L, hL⟩ : ∃ L, ys.length = L := ⟨_, rfl⟩
    rw [hL] at HL HO HS
    have HLL := Lib.hid hL
    have hL4 := HL.out
    clear hL
    by_cases hk0 : k = 0
    · subst hk0
      have hz0 : Value.int .i64 ((0 : Nat) : Int) = .int .i64 0 := rfl
      rw [hz0]
      go_wp2
      go_ret
      exact ⟨_, ys, rfl, by rw [HLL.out]; omega, HG.out, HI.out, by rw [HLL.out]; exact HO.out, HB.out⟩
    · have hkp : 0 < (k : Int) := by omega
      obtain ⟨w4, e4⟩ : ∃ q : World, q = wr.alloc (.cells #[.string ⟨#[97]⟩, .string ⟨#[115, 111, 102, 116]⟩, .string ⟨#[119, 97, 121]⟩, .string ⟨#[122, 122]⟩] 9) := ⟨_, rfl⟩
      have hb4 : Below wr.heap.size wr w4 := by rw [e4]; exact (Below.refl _ _).alloc (Nat.le_refl _) _
      have hz4 : w4.heap.size = wr.heap.size + 1 := by rw [e4]; simp
      have HS4 := Lib.hid (HS.out.below hb4 (by omega))
      have HB4 := Lib.hid (HB.out.trans (hb4.mono (by omega)))
      have HG4 := Lib.hid (Gr.of_below (S := w.heap.size) hb4 (Nat.le_refl _))
      have hcl : ∀ j u, ([(⟨#[97]⟩ : ByteArray), ⟨#[115, 111, 102, 116]⟩, ⟨#[119, 97, 121]⟩, ⟨#[122, 122]⟩].map Value.string)[j]? = some u → w4.cell? ⟨wr.heap.size, j, none⟩ = some u := by
        intro j u hu
        rw [e4, litNew, ← hu]
        simp
      have HC := Lib.hid hcl
      clear hcl
      go_wp2_with fail
      rw [← e4]
      clear e4
      refine (HTX.out w4 HB4.out (30 * L + 1) (by omega) HS4.out wr.heap.size 4 4 _ rfl (by decide) (by decide) (by omega) (by omega) HC.out).mono ?_
      rintro e w5 ⟨nm, rfl, hnm, hs5, hg5⟩
      have HNM := Lib.hid (names_ok nm hnm)
      have hz5 := hg5.size
      have HG5 := Lib.hid (HG4.out.trans (Gr.of_grown hg5 (by omega)))
      have HB5 := Lib.hid (below_gr HB4.out (Gr.of_grown hg5 (Nat.le_refl _)) (by omega) (Nat.le_refl _))
      have HS5 := Lib.hid hs5
      clear hs5 hg5 hnm HC HS4 HB4 HG4
      go_wp2_with fail
      obtain ⟨T, hT⟩ : ∃ T, w5.heap.size = T := ⟨_, rfl⟩
      obtain ⟨w6, e6⟩ : ∃ q : World, q = w5.alloc (.cells #[.string nm, .slice none 0 0, .slice none 0 0] 35) := ⟨_, rfl⟩
      have hb6 : Below w5.heap.size w5 w6 := by rw [e6]; exact (Below.refl _ _).alloc (Nat.le_refl _) _
      have hz6 : w6.heap.size = w5.heap.size + 1 := by rw [e6]; simp
      have HT6 := Lib.hid (show Obj w6 T 35 #[.string nm, .slice none 0 0, .slice none 0 0] by rw [e6, ← hT]; exact Obj.new _ _ _)
      have HS6 := Lib.hid (HS5.out.below hb6 (by omega))
      have HB6 := Lib.hid (HB5.out.trans (hb6.mono (by omega)))
      have HG6 := Lib.hid (HG5.out.trans (Gr.of_below hb6 (by omega)))
      rw [← e6]
      rw [hT]
      rw [hT] at hz6
      have hTz : wr.heap.size ≤ T := by omega
      clear e6 hb6 hT hz5 hz4 HS5 HB5 HG5
      refine (HPK.out w6 HB6.out (30 * L + 2) (by omega) HS6.out 20 (by decide) (by decide)).mono ?_
      rintro e w7 ⟨x, rfl, hx0, hx1, hs7, hg7⟩
      obtain ⟨q1, rfl⟩ : ∃ q1 : Nat, x = (q1 : Int) := ⟨x.toNat, by omega⟩
      have hz7 := hg7.size
      have HT7 := Lib.hid (HT6.out.kept hg7 (by simp; omega))
      have HB7 := Lib.hid (below_gr HB6.out (Gr.of_grown hg7 (Nat.le_refl _)) (by omega) (Nat.le_refl _))
      have HG7 := Lib.hid (HG6.out.trans (Gr.of_grown hg7 (by omega)))
      have HS7 := Lib.hid hs7
      clear hs7 hg7 HS6 HB6 HG6 HT6 hx0
      go_wp2_with fail
      refine (HDB.out w7 HB7.out (30 * L + 3) (by omega) HS7.out q1 (by omega)).mono ?_
      rintro e w8 ⟨v1, bs, rfl, hbl, ho8, hs8, hg8⟩
      obtain ⟨A1, k1, rfl, hp8⟩ := ho8.opn
      have hz8 := hg8.size
      have HT8 := Lib.hid (HT7.out.kept hg8 (by simp; omega))
      have HB8 := Lib.hid (below_gr HB7.out (Gr.of_grown hg8 (Nat.le_refl _)) (by omega) (Nat.le_refl _))
      have HG8 := Lib.hid (HG7.out.trans (Gr.of_grown hg8 (by omega)))
      have HS8 := Lib.hid (hs8.more (show 30 * L + 3 + q1 ≤ 30 * L + 22 by omega))
      have HP8 := Lib.hid (own_base hp8 (show T + 1 ≤ w7.heap.size by omega))
      have HBL := Lib.hid (show bs.length ≤ 19 by omega)
      have t1 := HT8.out.cell 1
      simp only [List.getElem?_toArray, List.getElem?_cons_zero, List.getElem?_cons_succ] at t1
      have t2 := HT8.out.frozen 1
      clear hs8 hg8 HS7 HB7 HG7 HT7 ho8 hp8 hbl
      go_wp2_with fail
      obtain ⟨w9, e9⟩ : ∃ q : World, q = w8.setCell ⟨T, 1, none⟩ (.slice A1 bs.length k1) := ⟨_, rfl⟩
      rw [← e9]
      have hg9 : w8.grownBy w9 (some T) := by rw [e9]; exact grownBy_set _ _ _ _
      have HT9 := Lib.hid (show Obj w9 T 35 #[.string nm, .slice A1 bs.length k1, .slice none 0 0] by
        rw [e9]
        have h := HT8.out.set 1 (.slice A1 bs.length k1)
        simpa using h)
      have hz9 := hg9.size
      have HB9 := Lib.hid (below_gr HB8.out (Gr.of_far (S := w.heap.size) hg9 hTz (by omega)) (by omega) (Nat.le_refl _))
      have HG9 := Lib.hid (HG8.out.trans (Gr.of_far hg9 hTz (by omega)))
      have HS9 := Lib.hid (HS8.out.kept hg9 (by simp; omega))
      have HP9 := Lib.hid (HP8.out.kept hg9 (.inr (HT8.out.not_row (by decide) HP8.out).symm))
      clear e9 hg9 t1 t2 HT8 HB8 HG8 HS8 HP8
      refine (HPK.out w9 HB9.out (30 * L + 22) (by omega) HS9.out 6 (by decide) (by decide)).mono ?_
      rintro e w10 ⟨x, rfl, hx0, hx2, hs10, hg10⟩
      obtain ⟨q2, rfl⟩ : ∃ q2 : Nat, x = (q2 : Int) := ⟨x.toNat, by omega⟩
      have hz10 := hg10.size
      have HT10 := Lib.hid (HT9.out.kept hg10 (by simp; omega))
      have HB10 := Lib.hid (below_gr HB9.out (Gr.of_grown hg10 (Nat.le_refl _)) (by omega) (Nat.le_refl _))
      have HG10 := Lib.hid (HG9.out.trans (Gr.of_grown hg10 (by omega)))
      have HS10 := Lib.hid hs10
      have HP10 := Lib.hid (HP9.out.kept hg10 (own_ne HP9.out (by omega)))
      clear hs10 hg10 HS9 HB9 HG9 HT9 HP9 hx0
      go_wp2_with fail
      obtain ⟨wa, hwa⟩ : ∃ q : World, q = wr := ⟨_, rfl⟩
      rw [← hwa] at HG10 HO HI hTz hz
      clear HS HB hwa
      go_loopw [8] (fun i wr => ∃ (k : Nat) (xs : List Nat) (v2 : Value), i = .int .i64 k ∧ Hid (xs.length + k = q2) ∧ Hid (∀ x ∈ xs, finB (fl .f32 x) = true ∧ x < 4294967296) ∧ Hid (Obj wr T 35 #[.string nm, .slice A1 bs.length k1, v2]) ∧ Hid (wr.ownsRow (T + 1) 4 1 (.slice A1 bs.length k1) bs.length (bs.map Value.bool)) ∧ Hid (wr.ownsRow (T + 1) 58 1 v2 xs.length (xs.map (Value.float .f32))) ∧ Hid (Src wr w.heap.size A n cap (30 * L + 23 + xs.length)) ∧ Hid (Gr wa.heap.size w.heap.size wa wr) ∧ Hid (Below w.heap.size w wr) ∧ T + 1 ≤ wr.heap.size) (fun i _ => (intOf i).toNat)
      case atStart => exact ⟨q2, [], .slice none 0 0, rfl, Lib.hid (by simp), Lib.hid (by simp), HT10, HP10, Lib.hid (World.ownsRow_nil _ _ _ _), HS10, HG10, HB10, by omega⟩
      case round =>
        clear HT10 HP10 HS10 HG10 HB10
        obtain ⟨j, xs, v2, rfl, HJ, HF, HT, HP, HQ, HS, HGr, HB, hzr⟩ := hrel
        by_cases hj0 : j = 0
        · subst hj0
          have hz0 : Value.int .i64 ((0 : Nat) : Int) = .int .i64 0 := rfl
          rw [hz0]
          have hlx : xs.length ≤ 5 := by have := HJ.out; omega
          obtain ⟨LX, hLX⟩ : ∃ q, xs.length = q := ⟨_, rfl⟩
          rw [hLX] at HQ HS HJ hlx
          have HLX := Lib.hid hLX
          clear hLX
          obtain ⟨A2, k2, rfl⟩ := own1_opn HQ.out
          obtain ⟨t0, t1, t2, _⟩ := obj3 HT.out
          have hTlt := HT.out.lt
          have hzwa := HGr.out.size
          have hcl := sav_cells (w := wr.alloc (.cells #[.string nm, .slice A1 bs.length k1, .slice A2 LX k2] 35)) (g := wr.heap.size) (r := ⟨nm, A1, k1, bs, A2, k2, xs⟩) (by rw [HLX.out]; exact heap_alloc_new wr _)
          have HCL := Lib.hid hcl
          have hrow := own_gr HO.out HGr.out (Nat.le_refl _) (Nat.lt_succ_self _)
          have hal : Below wr.heap.size wr (wr.alloc (.cells #[.string nm, .slice A1 bs.length k1, .slice A2 LX k2] 35)) := (Below.refl _ _).alloc (Nat.le_refl _) _
          have HR2 := Lib.hid (own_below hrow hal (Nat.le_refl _))
          have HAL := Lib.hid hal
          clear hcl hrow hal
          go_wp2_with (at_builtin; go_must (refine app3 rfl _ _ rfl _ _ L ys rfl HR2.out _ _ ⟨nm, A1, k1, bs, A2, k2, xs⟩ rfl HCL.out (by omega) (by simp; omega) ?_); intro v' w12 ho12 hg12)
          go_wp2
          go_roundw
          case rel =>
            have hz12 := hg12.size
            simp at hz12
            have hrow : ∀ g, _ = some g → w.heap.size + 1 ≤ g := fun g hg => (HR2.out.lt g hg).1
            refine ⟨k - 1, ys ++ [⟨nm, A1, k1, bs, A2, k2, xs⟩], by go_num, Lib.hid ?_, Lib.hid ?_, Lib.hid ?_, Lib.hid ?_, Lib.hid ?_, Lib.hid ?_, by omega⟩
            · rw [List.length_append, HLL.out]
              simp
              omega
            · intro y hy
              rw [List.mem_append] at hy
              rcases hy with hy | hy
              · exact HG.out y hy
              · obtain rfl : y = ⟨nm, A1, k1, bs, A2, k2, xs⟩ := by simpa using hy
                exact ⟨show vld (nm, bs, xs) = true from vld_is HNM.out (Nat.le_trans HBL.out (by decide)) (by rw [HLX.out]; omega) (fun x hx => (HF.out x hx).1), fun x hx => (HF.out x hx).2⟩
            · intro y hy
              rw [List.mem_append] at hy
              rcases hy with hy | hy
              · exact (((HI.out y hy).gr HGr.out (Nat.le_refl _) (Nat.lt_succ_self _)).below HAL.out (Nat.le_refl _)).grown HR2.out hg12
              · obtain rfl : y = ⟨nm, A1, k1, bs, A2, k2, xs⟩ := by simpa using hy
                have hr : OwnS wr (w.heap.size + 1) ⟨nm, A1, k1, bs, A2, k2, xs⟩ := ⟨own_base HP.out (by omega), own_base (by rw [HLX.out]; exact HQ.out) (by omega)⟩
                exact (hr.below HAL.out (Nat.le_refl _)).grown HR2.out hg12
            · rw [List.length_append, HLL.out]
              exact ho12
            · rw [List.length_append, HLL.out]
              exact ((HS.out.below HAL.out (by omega)).kept hg12 (fun e => by have := hrow _ e; omega)).more (by simp; omega)
            · exact (HB.out.trans (HAL.out.mono (by omega))).grown hg12 (by simp; omega) fun g hg => by have := hrow _ hg; omega
          case measure => simp [intOf]; omega
        · have hjp : 0 < (j : Int) := by omega
          have hj5 : j ≤ 5 := by have := HJ.out; omega
          have t2 := HT.out.cell 2
          simp only [List.getElem?_toArray, List.getElem?_cons_zero, List.getElem?_cons_succ] at t2
          have f2 := HT.out.frozen 2
          obtain ⟨i0, hi, hz0, hz1, hz2⟩ := info_parts infoFloat32
          have hTS : w.heap.size ≠ T := by omega
          have hlx : xs.length ≤ 5 := by have := HJ.out; omega
          obtain ⟨LX, hLX⟩ : ∃ q, xs.length = q := ⟨_, rfl⟩
          rw [hLX] at HQ HS HJ hlx
          have HLX := Lib.hid hLX
          clear hLX
          go_wp2_with fail
          refine wp_region_any (by kernel_rfl) ?_
          change wpAny _ _ _ _ _ _ _ (World.drew _)
          refine wpAny_take (i := 0) (v := .pointer (some ⟨T, 2, none⟩)) rfl (by kernel_rfl) (by kernel_rfl) (by kernel_rfl) (fun _ _ _ h => h) (Or.inl ⟨by rfl, fun w' => by go_simp⟩) ?_
          refine wpAny_take (i := 2) (v := .pointer (some ⟨w.heap.size, 0, none⟩)) rfl (by kernel_rfl) (by kernel_rfl) (by kernel_rfl) (fun _ _ _ h => h) (Or.inl ⟨by rfl, fun w' => by go_simp⟩) ?_
          refine wpAny_ready (rs := [1, 3]) (by kernel_rfl) (by simp) ?_
          refine AllReady.cons rfl (fun K hK => ?_) ?_
          · go_simp
            refine hK _ _ ?_
            clear hK K
            refine wpAny_ready (rs := [3]) (by kernel_rfl) (by simp) ?_
            refine AllReady.cons rfl (fun K hK => ?_) AllReady.nil
            go_simp
            refine (HPK.out wr.drew (below_drewN HB.out 1) (30 * L + 23 + LX) (by omega) HS.out 33 (by decide) (by decide)).mono ?_
            rintro e w11 ⟨x, rfl, hx0, hx33, hs11, hg11⟩
            obtain ⟨x', rfl⟩ : ∃ x' : Nat, x = (x' : Int) := ⟨x.toNat, by omega⟩
            obtain ⟨y1, y2, y3⟩ := qV_ok x' (by omega)
            have hg11 : wr.grownBy w11 (some w.heap.size) := ⟨hg11.os, hg11.tape, hg11.output, hg11.size, hg11.block⟩
            have hT11 := HT.out.kept hg11 (by simpa using Ne.symm hTS)
            have HP11 := Lib.hid (HP.out.kept hg11 (own_ne HP.out (by omega)))
            have hq11 := HQ.out.kept hg11 (own_ne HQ.out (by omega))
            have t2a : w11.cell? ⟨T, 2, none⟩ = some v2 := hT11.cell 2
            have hTlt : T < w11.heap.size := hT11.lt
            have HT11 := Lib.hid hT11
            have HQ11 := Lib.hid hq11
            have hwr : IntKind.i64.wrap ((x' : Int) - 16) = (x' : Int) - 16 := IntWalk.i64_in _ (by omega)
            have hrun := fun W : World => run_float_arith (P := Try.prog) W .quo 58 .f32 _ _ _ y1
            have hz11 := hg11.size
            have HS11 := Lib.hid hs11
            have HG11 := Lib.hid hg11
            generalize qV x' = y at hrun y2 y3
            clear hs11 hg11 y1 hT11 hq11
            refine hK _ _ ?_
            clear hK K
            refine wpAny_take (i := 4) (v := .int .i64 ((x' : Int) - 16)) rfl (by kernel_rfl) (by kernel_rfl) (by kernel_rfl) (fun _ _ _ h => h) (Or.inl ⟨by rfl, fun w' => by go_simp⟩) ?_
            refine wpAny_take (i := 5) (v := .float .f32 (floatOfInt .f32 ((x' : Int) - 16))) rfl (by kernel_rfl) (by kernel_rfl) (by kernel_rfl) (fun _ _ _ h => h) (Or.inl ⟨by rfl, fun w' => by go_simp⟩) ?_
            refine wpAny_take (i := 6) (v := .float .f32 y) rfl (by kernel_rfl) (by kernel_rfl) (by kernel_rfl) (fun _ _ _ h => h) (Or.inl ⟨by rfl, fun w' => by go_simp⟩) ?_
            refine wpAny_ready (rs := [7]) (by kernel_rfl) (by simp) ?_
            refine AllReady.cons rfl (fun K hK => ?_) AllReady.nil
            go_simp
            refine hK _ _ ?_
            clear hK K
            refine wpAny_ready (rs := [8]) (by kernel_rfl) (by simp) ?_
            refine AllReady.cons rfl (fun K hK => ?_) AllReady.nil
            obtain ⟨w13, e13⟩ : ∃ q : World, q = w11.alloc (.cells #[.float .f32 y] 58) := ⟨_, rfl⟩
            rw [← e13]
            have hb13 : Below w11.heap.size w11 w13 := by rw [e13]; exact (Below.refl _ _).alloc (Nat.le_refl _) _
            have hz13 : w13.heap.size = w11.heap.size + 1 := by rw [e13]; simp
            have hn13 : ∀ i u, [Value.float .f32 y][i]? = some u → w13.cell? ((⟨w11.heap.size, 0, none⟩ : Addr).add i) = some u := by rw [e13]; exact World.news_of_block (cs := #[.float .f32 y]) (t := 58) (fr := (0, 0)) (heap_alloc_new w11 _)
            have HQ13 := Lib.hid (own_below HQ11.out hb13 (Nat.le_refl _))
            have HP13 := Lib.hid (own_below HP11.out hb13 (Nat.le_refl _))
            have HT13 := Lib.hid (HT11.out.below hb13 hTlt)
            have HS13 := Lib.hid (HS11.out.below hb13 (by omega))
            clear e13
            refine step_append_lies w13 (by rfl) _ _ _ (by rfl) (T + 1) 58 i0 _ 1 4 Try.underlying29 hi hz0 hz1 hz2 rfl Nat.one_pos v2 LX _ (by rfl) HQ13.out ⟨w11.heap.size, 0, none⟩ 1 1 [Value.float .f32 y] (by rfl) rfl hn13 (by simp [Value.oneCell']) Nat.one_pos (by unfold maxLen; omega) (by omega) (by omega) (w11.heap.size + 1) hz13 ?_
            intro gg cc w12 hown12 hgrow hat hltg
            have hT12 := HT13.out.kept hgrow (HT13.out.not_row (by decide) HQ13.out)
            have t2c : w12.cell? ⟨T, 2, none⟩ = some v2 := hT12.cell 2
            have f2c := hT12.frozen 2
            refine hK _ _ ?_
            clear hK K
            refine wpAny_take (i := 9) (v := .pointer (some ⟨T, 2, none⟩)) rfl (by kernel_rfl) (by kernel_rfl) (by kernel_rfl) (fun _ _ _ h => h) (Or.inl ⟨by rfl, fun w' => by go_simp⟩) ?_
            refine wpAny_ready (rs := [10]) (by kernel_rfl) (by simp) ?_
            refine AllReady.cons rfl (fun K hK => ?_) AllReady.nil
            go_simp
            refine hK _ _ ?_
            clear hK K
            refine wpAny_done (by kernel_rfl) ?_ _
            go_wp2
            go_roundw
            case rel =>
              have hg14 := grownBy_set w12 T 2 (.slice (some ⟨gg, 0, none⟩) (LX + 1) cc)
              have hzwa := HGr.out.size
              have hfar : ∀ k, v2.ownBlock = some k → T + 1 ≤ k := fun k hk => (HQ13.out.lt k hk).1
              have hG2 := ((Gr.of_grown HG11.out (by omega)).trans (Gr.of_below hb13 (by omega))).trans ((Gr.of_row hgrow hfar (by omega) (by omega)).trans (Gr.of_far (z := wa.heap.size) hg14 (by omega) (by have := hgrow.size; omega)))
              refine ⟨j - 1, xs ++ [y], .slice (some ⟨gg, 0, none⟩) (LX + 1) cc, by go_num, Lib.hid ?_, Lib.hid ?_, Lib.hid ?_, Lib.hid ?_, Lib.hid ?_, Lib.hid ?_, Lib.hid (HGr.out.trans hG2), Lib.hid (below_gr HB.out hG2 (by omega) (Nat.le_refl _)), ?_⟩
              · rw [List.length_append, HLX.out]; have := HJ.out; simp; omega
              · intro z hzm
                rw [List.mem_append] at hzm
                rcases hzm with hzm | hzm
                · exact HF.out z hzm
                · obtain rfl : z = y := by simpa using hzm
                  exact ⟨y2, y3⟩
              · have h := hT12.set 2 (.slice (some ⟨gg, 0, none⟩) (LX + 1) cc)
                simpa using h
              · exact (HP13.out.kept hgrow (own_types HP13.out HQ13.out (by decide))).kept hg14 (.inr (hT12.not_row (by decide) (HP13.out.kept hgrow (own_types HP13.out HQ13.out (by decide)))).symm)
              · rw [List.length_append, HLX.out, List.map_append]
                exact hown12.kept hg14 (.inr (hT12.not_row (by decide) hown12).symm)
              · rw [List.length_append, HLX.out]
                exact ((HS13.out.kept hgrow (fun e => by have := hfar _ e; omega)).kept hg14 (by simp; omega))
              · have := hg14.size; have := hgrow.size; omega
            case measure => simp [intOf]; omega
          · refine AllReady.cons rfl (fun K hK => ?_) AllReady.nil
            go_simp
            refine (HPK.out wr.drew (below_drewN HB.out 1) (30 * L + 23 + LX) (by omega) HS.out 33 (by decide) (by decide)).mono ?_
            rintro e w11 ⟨x, rfl, hx0, hx33, hs11, hg11⟩
            obtain ⟨x', rfl⟩ : ∃ x' : Nat, x = (x' : Int) := ⟨x.toNat, by omega⟩
            obtain ⟨y1, y2, y3⟩ := qV_ok x' (by omega)
            have hg11 : wr.grownBy w11 (some w.heap.size) := ⟨hg11.os, hg11.tape, hg11.output, hg11.size, hg11.block⟩
            have hT11 := HT.out.kept hg11 (by simpa using Ne.symm hTS)
            have HP11 := Lib.hid (HP.out.kept hg11 (own_ne HP.out (by omega)))
            have hq11 := HQ.out.kept hg11 (own_ne HQ.out (by omega))
            have t2a : w11.cell? ⟨T, 2, none⟩ = some v2 := hT11.cell 2
            have hTlt : T < w11.heap.size := hT11.lt
            have HT11 := Lib.hid hT11
            have HQ11 := Lib.hid hq11
            have hwr : IntKind.i64.wrap ((x' : Int) - 16) = (x' : Int) - 16 := IntWalk.i64_in _ (by omega)
            have hrun := fun W : World => run_float_arith (P := Try.prog) W .quo 58 .f32 _ _ _ y1
            have hz11 := hg11.size
            have HS11 := Lib.hid hs11
            have HG11 := Lib.hid hg11
            generalize qV x' = y at hrun y2 y3
            clear hs11 hg11 y1 hT11 hq11
            refine hK _ _ ?_
            clear hK K
            refine wpAny_take (i := 4) (v := .int .i64 ((x' : Int) - 16)) rfl (by kernel_rfl) (by kernel_rfl) (by kernel_rfl) (fun _ _ _ h => h) (Or.inl ⟨by rfl, fun w' => by go_simp⟩) ?_
            refine wpAny_take (i := 5) (v := .float .f32 (floatOfInt .f32 ((x' : Int) - 16))) rfl (by kernel_rfl) (by kernel_rfl) (by kernel_rfl) (fun _ _ _ h => h) (Or.inl ⟨by rfl, fun w' => by go_simp⟩) ?_
            refine wpAny_take (i := 6) (v := .float .f32 y) rfl (by kernel_rfl) (by kernel_rfl) (by kernel_rfl) (fun _ _ _ h => h) (Or.inl ⟨by rfl, fun w' => by go_simp⟩) ?_
            refine wpAny_ready (rs := [1, 7]) (by kernel_rfl) (by simp) ?_
            refine AllReady.cons rfl (fun K hK => ?_) ?_
            · go_simp
              refine hK _ _ ?_
              clear hK K
              refine wpAny_ready (rs := [7]) (by kernel_rfl) (by simp) ?_
              refine AllReady.cons rfl (fun K hK => ?_) AllReady.nil
              go_simp
              refine hK _ _ ?_
              clear hK K
              refine wpAny_ready (rs := [8]) (by kernel_rfl) (by simp) ?_
              refine AllReady.cons rfl (fun K hK => ?_) AllReady.nil
              obtain ⟨w13, e13⟩ : ∃ q : World, q = w11.alloc (.cells #[.float .f32 y] 58) := ⟨_, rfl⟩
              rw [← e13]
              have hb13 : Below w11.heap.size w11 w13 := by rw [e13]; exact (Below.refl _ _).alloc (Nat.le_refl _) _
              have hz13 : w13.heap.size = w11.heap.size + 1 := by rw [e13]; simp
              have hn13 : ∀ i u, [Value.float .f32 y][i]? = some u → w13.cell? ((⟨w11.heap.size, 0, none⟩ : Addr).add i) = some u := by rw [e13]; exact World.news_of_block (cs := #[.float .f32 y]) (t := 58) (fr := (0, 0)) (heap_alloc_new w11 _)
              have HQ13 := Lib.hid (own_below HQ11.out hb13 (Nat.le_refl _))
              have HP13 := Lib.hid (own_below HP11.out hb13 (Nat.le_refl _))
              have HT13 := Lib.hid (HT11.out.below hb13 hTlt)
              have HS13 := Lib.hid (HS11.out.below hb13 (by omega))
              clear e13
              refine step_append_lies w13 (by rfl) _ _ _ (by rfl) (T + 1) 58 i0 _ 1 4 Try.underlying29 hi hz0 hz1 hz2 rfl Nat.one_pos v2 LX _ (by rfl) HQ13.out ⟨w11.heap.size, 0, none⟩ 1 1 [Value.float .f32 y] (by rfl) rfl hn13 (by simp [Value.oneCell']) Nat.one_pos (by unfold maxLen; omega) (by omega) (by omega) (w11.heap.size + 1) hz13 ?_
              intro gg cc w12 hown12 hgrow hat hltg
              have hT12 := HT13.out.kept hgrow (HT13.out.not_row (by decide) HQ13.out)
              have t2c : w12.cell? ⟨T, 2, none⟩ = some v2 := hT12.cell 2
              have f2c := hT12.frozen 2
              refine hK _ _ ?_
              clear hK K
              refine wpAny_take (i := 9) (v := .pointer (some ⟨T, 2, none⟩)) rfl (by kernel_rfl) (by kernel_rfl) (by kernel_rfl) (fun _ _ _ h => h) (Or.inl ⟨by rfl, fun w' => by go_simp⟩) ?_
              refine wpAny_ready (rs := [10]) (by kernel_rfl) (by simp) ?_
              refine AllReady.cons rfl (fun K hK => ?_) AllReady.nil
              go_simp
              refine hK _ _ ?_
              clear hK K
              refine wpAny_done (by kernel_rfl) ?_ _
              go_wp2
              go_roundw
              case rel =>
                have hg14 := grownBy_set w12 T 2 (.slice (some ⟨gg, 0, none⟩) (LX + 1) cc)
                have hzwa := HGr.out.size
                have hfar : ∀ k, v2.ownBlock = some k → T + 1 ≤ k := fun k hk => (HQ13.out.lt k hk).1
                have hG2 := ((Gr.of_grown HG11.out (by omega)).trans (Gr.of_below hb13 (by omega))).trans ((Gr.of_row hgrow hfar (by omega) (by omega)).trans (Gr.of_far (z := wa.heap.size) hg14 (by omega) (by have := hgrow.size; omega)))
                refine ⟨j - 1, xs ++ [y], .slice (some ⟨gg, 0, none⟩) (LX + 1) cc, by go_num, Lib.hid ?_, Lib.hid ?_, Lib.hid ?_, Lib.hid ?_, Lib.hid ?_, Lib.hid ?_, Lib.hid (HGr.out.trans hG2), Lib.hid (below_gr HB.out hG2 (by omega) (Nat.le_refl _)), ?_⟩
                · rw [List.length_append, HLX.out]; have := HJ.out; simp; omega
                · intro z hzm
                  rw [List.mem_append] at hzm
                  rcases hzm with hzm | hzm
                  · exact HF.out z hzm
                  · obtain rfl : z = y := by simpa using hzm
                    exact ⟨y2, y3⟩
                · have h := hT12.set 2 (.slice (some ⟨gg, 0, none⟩) (LX + 1) cc)
                  simpa using h
                · exact (HP13.out.kept hgrow (own_types HP13.out HQ13.out (by decide))).kept hg14 (.inr (hT12.not_row (by decide) (HP13.out.kept hgrow (own_types HP13.out HQ13.out (by decide)))).symm)
                · rw [List.length_append, HLX.out, List.map_append]
                  exact hown12.kept hg14 (.inr (hT12.not_row (by decide) hown12).symm)
                · rw [List.length_append, HLX.out]
                  exact ((HS13.out.kept hgrow (fun e => by have := hfar _ e; omega)).kept hg14 (by simp; omega))
                · have := hg14.size; have := hgrow.size; omega
              case measure => simp [intOf]; omega
            · refine AllReady.cons rfl (fun K hK => ?_) AllReady.nil
              go_simp
              refine hK _ _ ?_
              clear hK K
              refine wpAny_ready (rs := [1]) (by kernel_rfl) (by simp) ?_
              refine AllReady.cons rfl (fun K hK => ?_) AllReady.nil
              go_simp
              refine hK _ _ ?_
              clear hK K
              refine wpAny_ready (rs := [8]) (by kernel_rfl) (by simp) ?_
              refine AllReady.cons rfl (fun K hK => ?_) AllReady.nil
              obtain ⟨w13, e13⟩ : ∃ q : World, q = w11.alloc (.cells #[.float .f32 y] 58) := ⟨_, rfl⟩
              rw [← e13]
              have hb13 : Below w11.heap.size w11 w13 := by rw [e13]; exact (Below.refl _ _).alloc (Nat.le_refl _) _
              have hz13 : w13.heap.size = w11.heap.size + 1 := by rw [e13]; simp
              have hn13 : ∀ i u, [Value.float .f32 y][i]? = some u → w13.cell? ((⟨w11.heap.size, 0, none⟩ : Addr).add i) = some u := by rw [e13]; exact World.news_of_block (cs := #[.float .f32 y]) (t := 58) (fr := (0, 0)) (heap_alloc_new w11 _)
              have HQ13 := Lib.hid (own_below HQ11.out hb13 (Nat.le_refl _))
              have HP13 := Lib.hid (own_below HP11.out hb13 (Nat.le_refl _))
              have HT13 := Lib.hid (HT11.out.below hb13 hTlt)
              have HS13 := Lib.hid (HS11.out.below hb13 (by omega))
              clear e13
              refine step_append_lies w13 (by rfl) _ _ _ (by rfl) (T + 1) 58 i0 _ 1 4 Try.underlying29 hi hz0 hz1 hz2 rfl Nat.one_pos v2 LX _ (by rfl) HQ13.out ⟨w11.heap.size, 0, none⟩ 1 1 [Value.float .f32 y] (by rfl) rfl hn13 (by simp [Value.oneCell']) Nat.one_pos (by unfold maxLen; omega) (by omega) (by omega) (w11.heap.size + 1) hz13 ?_
              intro gg cc w12 hown12 hgrow hat hltg
              have hT12 := HT13.out.kept hgrow (HT13.out.not_row (by decide) HQ13.out)
              have t2c : w12.cell? ⟨T, 2, none⟩ = some v2 := hT12.cell 2
              have f2c := hT12.frozen 2
              refine hK _ _ ?_
              clear hK K
              refine wpAny_take (i := 9) (v := .pointer (some ⟨T, 2, none⟩)) rfl (by kernel_rfl) (by kernel_rfl) (by kernel_rfl) (fun _ _ _ h => h) (Or.inl ⟨by rfl, fun w' => by go_simp⟩) ?_
              refine wpAny_ready (rs := [10]) (by kernel_rfl) (by simp) ?_
              refine AllReady.cons rfl (fun K hK => ?_) AllReady.nil
              go_simp
              refine hK _ _ ?_
              clear hK K
              refine wpAny_done (by kernel_rfl) ?_ _
              go_wp2
              go_roundw
              case rel =>
                have hg14 := grownBy_set w12 T 2 (.slice (some ⟨gg, 0, none⟩) (LX + 1) cc)
                have hzwa := HGr.out.size
                have hfar : ∀ k, v2.ownBlock = some k → T + 1 ≤ k := fun k hk => (HQ13.out.lt k hk).1
                have hG2 := ((Gr.of_grown HG11.out (by omega)).trans (Gr.of_below hb13 (by omega))).trans ((Gr.of_row hgrow hfar (by omega) (by omega)).trans (Gr.of_far (z := wa.heap.size) hg14 (by omega) (by have := hgrow.size; omega)))
                refine ⟨j - 1, xs ++ [y], .slice (some ⟨gg, 0, none⟩) (LX + 1) cc, by go_num, Lib.hid ?_, Lib.hid ?_, Lib.hid ?_, Lib.hid ?_, Lib.hid ?_, Lib.hid ?_, Lib.hid (HGr.out.trans hG2), Lib.hid (below_gr HB.out hG2 (by omega) (Nat.le_refl _)), ?_⟩
                · rw [List.length_append, HLX.out]; have := HJ.out; simp; omega
                · intro z hzm
                  rw [List.mem_append] at hzm
                  rcases hzm with hzm | hzm
                  · exact HF.out z hzm
                  · obtain rfl : z = y := by simpa using hzm
                    exact ⟨y2, y3⟩
                · have h := hT12.set 2 (.slice (some ⟨gg, 0, none⟩) (LX + 1) cc)
                  simpa using h
                · exact (HP13.out.kept hgrow (own_types HP13.out HQ13.out (by decide))).kept hg14 (.inr (hT12.not_row (by decide) (HP13.out.kept hgrow (own_types HP13.out HQ13.out (by decide)))).symm)
                · rw [List.length_append, HLX.out, List.map_append]
                  exact hown12.kept hg14 (.inr (hT12.not_row (by decide) hown12).symm)
                · rw [List.length_append, HLX.out]
                  exact ((HS13.out.kept hgrow (fun e => by have := hfar _ e; omega)).kept hg14 (by simp; omega))
                · have := hg14.size; have := hgrow.size; omega
              case measure => simp [intOf]; omega

end Go.Proofs.Ytmkjlhobnlgpjaa
