/-
  Contracts: what is drawn from bytes: a source, its numbers.
  Conditions: at most 1048576 bytes; few draws.
-/
import Derived.Test.YtepdjehbgkfjhaaOB
import Derived.Deep.QuietTactic
import Derived.BigQuiet
import Derived.IntWalk
namespace Go.Proofs.Ytepdjehbgkfjhaa
open Go.RowKit


/-- a source at a block, at a place at most m -/
def Src (w : World) (S : Nat) (A : Option Addr) (n cap : Nat) (m : Nat) : Prop := ∃ (p : Nat) (seed : Int), p ≤ m ∧ 0 ≤ seed ∧ seed < 18446744073709551616 ∧ Obj w S 70 #[.slice A n cap, .int .i64 (p : Int), .int .u64 seed]
theorem and255 (a : Int) : 0 ≤ bits .and .u64 a 255 ∧ bits .and .u64 a 255 ≤ 255 := by
  have e3 : bits .and .u64 a 255 = IntKind.u64.wrap ((BitVec.ofInt 64 a &&& BitVec.ofInt 64 255).toNat : Int) := rfl
  have h1 : (BitVec.ofInt 64 a &&& BitVec.ofInt 64 255).toNat ≤ 255 := by
    rw [BitVec.toNat_and]
    exact Nat.and_le_right
  rw [e3, IntWalk.u64_in _ (by omega)]
  omega
theorem u64_bd (a : Int) : 0 ≤ IntKind.u64.wrap a ∧ IntKind.u64.wrap a < 18446744073709551616 := by
  have e : IntKind.u64.wrap a = a % 18446744073709551616 := by simp [IntKind.wrap, IntKind.bits, IntKind.signed]
  rw [e]
  omega
theorem grown_weak {w w' : World} {r : Option Nat} (h : w.grownBy w' none) : w.grownBy w' r := ⟨h.os, h.tape, h.output, h.size, fun k hk _ => h.block k hk (by simp)⟩
theorem grown_drewN {w w' : World} {r : Option Nat} (h : w.grownBy w' r) (k : Nat) : w.grownBy (w'.drewN k) r := ⟨h.os, h.tape, h.output, h.size, h.block⟩
set_option maxRecDepth 100000 in
set_option maxHeartbeats 1000000 in
theorem next_c (w : World) (S B : Nat) (A : Option Addr) (n cap m : Nat) (c : List Int) (hl : c.length = n) (hn : n ≤ 1048576) (hb : ∀ x ∈ c, 0 ≤ x ∧ x ≤ 255) (hx : Sl w B A (c.map (Value.int .u8))) (_hBS : B ≤ S) (hm : m ≤ 1048576) (ho : Src w S A n cap m) :
    Calls Try.prog 42 #[.pointer (some ⟨S, 0, none⟩)] w fun e w' => ∃ x : Int, e = .returned (.int .i64 x) ∧ 0 ≤ x ∧ x ≤ 255 ∧ Src w' S A n cap (m + 1) ∧ w.grownBy w' (some S) := by
  obtain ⟨p, seed, hp, hs0, hs1, ho⟩ := ho
  have c0 := ho.cell 0
  have c1 := ho.cell 1
  have c2 := ho.cell 2
  simp only [List.getElem?_toArray, List.getElem?_cons_zero, List.getElem?_cons_succ] at c0 c1 c2
  have f1 := ho.frozen 1
  have f2 := ho.frozen 2
  by_cases hlt : p < n
  · obtain ⟨b, off, rfl, hbb, hc⟩ := hx.get p (by omega)
    have hmem := hb (c[p]'(by omega)) (List.getElem_mem _)
    obtain ⟨x, hxx⟩ : ∃ x, c[p]'(by omega) = x := ⟨_, rfl⟩
    rw [hxx] at hc hmem
    clear hxx hx hb
    have HO := Lib.hid ho
    clear ho
    go_enter Try.func42, Try.ntmps42
    go_wp2
    go_quiet (fail)
    go_wp2
    go_quiet (fail)
    go_wp2
    generalize hs2 : IntKind.u64.wrap (IntKind.u64.wrap (IntKind.u64.wrap (seed * 6364136223846793005) + x) + 1442695040888963407) = seed2
    have hsb : 0 ≤ seed2 ∧ seed2 < 18446744073709551616 := by rw [← hs2]; exact u64_bd _
    generalize hq : World.drewN w _ = w1
    have HO1 := Lib.hid (show Obj w1 S 70 _ by rw [← hq]; exact HO.out)
    have hg1 : w.grownBy w1 none := by rw [← hq]; exact ⟨rfl, rfl, rfl, Nat.le_refl _, fun _ _ _ => rfl⟩
    have HG1 := Lib.hid hg1
    clear hq hs2 hg1
    obtain ⟨w2, e2⟩ : ∃ q : World, q = (w1.setCell ⟨S, 1, none⟩ (.int .i64 ((p : Int) + 1))).setCell ⟨S, 2, none⟩ (.int .u64 seed2) := ⟨_, rfl⟩
    rw [← e2]
    have HO2 : Obj w2 S 70 #[.slice (some ⟨b, off, none⟩) n cap, .int .i64 ((p : Int) + 1), .int .u64 seed2] := by
      rw [e2]
      have h := (HO1.out.set 1 (.int .i64 ((p : Int) + 1))).set 2 (.int .u64 seed2)
      simpa using h
    have HG2 := Lib.hid (show w.grownBy w2 (some S) by rw [e2]; exact ((grown_weak HG1.out).trans (grownBy_set w1 S 1 _)).trans (grownBy_set _ S 2 _))
    have d0 := HO2.cell 0
    have d1 := HO2.cell 1
    simp only [List.getElem?_toArray, List.getElem?_cons_zero, List.getElem?_cons_succ] at d0 d1
    have HO3 := Lib.hid HO2
    clear HO2 e2 c0 c1 c2 f1 f2 hc
    have hle : decide ((p : Int) + 1 ≤ (n : Int)) = true := by simp; omega
    go_quiet (fail)
    go_wp2
    go_ret
    exact ⟨x, rfl, hmem.1, hmem.2, ⟨p + 1, seed2, by omega, hsb.1, hsb.2, HO3.out⟩, grown_drewN HG2.out _⟩
  · have HO := Lib.hid ho
    clear ho hx hb
    have hge : ¬ p < n := hlt
    go_enter Try.func42, Try.ntmps42
    go_wp2
    go_quiet (fail)
    go_wp2
    generalize hs2 : IntKind.u64.wrap (IntKind.u64.wrap (IntKind.u64.wrap (seed * 6364136223846793005)) + 1442695040888963407) = seed2
    have hsb : 0 ≤ seed2 ∧ seed2 < 18446744073709551616 := by rw [← hs2]; exact u64_bd _
    generalize hq : World.drewN w _ = w1
    have HO1 := Lib.hid (show Obj w1 S 70 _ by rw [← hq]; exact HO.out)
    have hg1 : w.grownBy w1 none := by rw [← hq]; exact ⟨rfl, rfl, rfl, Nat.le_refl _, fun _ _ _ => rfl⟩
    have HG1 := Lib.hid hg1
    clear hq hs2 hg1
    obtain ⟨w2, e2⟩ : ∃ q : World, q = (w1.setCell ⟨S, 1, none⟩ (.int .i64 ((p : Int) + 1))).setCell ⟨S, 2, none⟩ (.int .u64 seed2) := ⟨_, rfl⟩
    rw [← e2]
    have HO2 : Obj w2 S 70 #[.slice A n cap, .int .i64 ((p : Int) + 1), .int .u64 seed2] := by
      rw [e2]
      have h := (HO1.out.set 1 (.int .i64 ((p : Int) + 1))).set 2 (.int .u64 seed2)
      simpa using h
    have HG2 := Lib.hid (show w.grownBy w2 (some S) by rw [e2]; exact ((grown_weak HG1.out).trans (grownBy_set w1 S 1 _)).trans (grownBy_set _ S 2 _))
    have d0 := HO2.cell 0
    have d1 := HO2.cell 1
    simp only [List.getElem?_toArray, List.getElem?_cons_zero, List.getElem?_cons_succ] at d0 d1
    have HO3 := Lib.hid HO2
    have d2 := HO2.cell 2
    simp only [List.getElem?_toArray, List.getElem?_cons_zero, List.getElem?_cons_succ] at d2
    clear HO2 e2 c0 c1 c2 f1 f2
    have hle : decide ((p : Int) + 1 ≤ (n : Int)) = false := by simp; omega
    go_quiet (fail)
    go_wp2
    have hx := and255 (seed2 / 1099511627776)
    generalize bits .and .u64 (seed2 / 1099511627776) 255 = x at hx
    have hx2 : wrap64 x = x := IntWalk.wrap64_in _ (by omega)
    go_wp2
    go_ret
    exact ⟨wrap64 x, rfl, by rw [hx2]; exact hx.1, by rw [hx2]; exact hx.2, ⟨p + 1, seed2, by omega, hsb.1, hsb.2, HO3.out⟩, grown_drewN HG2.out _⟩


set_option maxRecDepth 100000 in
set_option maxHeartbeats 1000000 in
theorem pick_c (w : World) (S B : Nat) (A : Option Addr) (n cap m : Nat) (c : List Int) (hl : c.length = n) (hn : n ≤ 1048576) (hb : ∀ x ∈ c, 0 ≤ x ∧ x ≤ 255) (hx : Sl w B A (c.map (Value.int .u8))) (hBS : B ≤ S) (hm : m ≤ 1048570) (ho : Src w S A n cap m) (q : Int) (hq1 : 1 ≤ q) (hq : q ≤ 200) :
    Calls Try.prog 17 #[.pointer (some ⟨S, 0, none⟩), .int .i64 q] w fun e w' => ∃ x : Int, e = .returned (.int .i64 x) ∧ 0 ≤ x ∧ x < q ∧ Src w' S A n cap (m + 1) ∧ w.grownBy w' (some S) := by
  have HN := Lib.hid (next_c w S B A n cap m c hl hn hb hx hBS (by omega) ho)
  obtain ⟨p0, s0, g0, g1, g2, g3⟩ := ho
  have HO := Lib.hid (show Src w S A n cap (m + 1) from ⟨p0, s0, by omega, g1, g2, g3⟩)
  clear hx hb g3
  by_cases h1 : q ≤ 1
  · go_enter Try.func17, Try.ntmps17
    go_wp2
    go_ret
    exact ⟨0, rfl, by omega, by omega, HO.out, ⟨rfl, rfl, rfl, Nat.le_refl _, fun _ _ _ => rfl⟩⟩
  · go_enter Try.func17, Try.ntmps17
    go_wp2_with fail
    refine HN.out.mono ?_
    rintro e w1 ⟨x, rfl, hx0, hx1, hs, hg⟩
    have HS := Lib.hid hs
    have HG := Lib.hid hg
    clear hs hg
    have ht : x.tmod q = x % q := Int.tmod_eq_emod_of_nonneg hx0
    have h2 := Int.emod_nonneg x (show q ≠ 0 by omega)
    have h3 := Int.emod_lt_of_pos x (show 0 < q by omega)
    generalize x % q = r at ht h2 h3
    go_wp2
    go_ret
    exact ⟨_, rfl, h2, h3, HS.out, HG.out⟩

theorem own_ne {w : World} {D n S : Nat} {e : TypeId} {v : Value} {xs : List Value} (h : w.ownsRow D e 1 v n xs) (hS : S < D) : v.ownBlock = none ∨ v.ownBlock ≠ some S := by
  cases hv : v.ownBlock with
  | none => exact .inl rfl
  | some g => exact .inr fun he => by have := (h.lt g hv).1; injection he with he; omega
theorem grown_over {w w1 w2 : World} {r : Option Nat} {D : Nat} (h : w.grownBy w1 r) (g : Below D w1 w2) (hD : w.heap.size ≤ D) : w.grownBy w2 r :=
  ⟨g.os.trans h.os, g.tape.trans h.tape, g.output.trans h.output, Nat.le_trans h.size g.size, fun k hk hne => (g.block k (Nat.lt_of_lt_of_le hk hD)).trans (h.block k hk hne)⟩
theorem Src.below {w w' : World} {S n cap m D : Nat} {A : Option Addr} (h : Src w S A n cap m) (hb : Below D w w') (hS : S < D) : Src w' S A n cap m := by
  obtain ⟨p, s, h1, h2, h3, ho⟩ := h
  exact ⟨p, s, h1, h2, h3, ho.below hb hS⟩
theorem Src.kept {w w' : World} {S n cap m : Nat} {A : Option Addr} {r : Option Nat} (h : Src w S A n cap m) (hg : w.grownBy w' r) (hr : r ≠ some S) : Src w' S A n cap m := by
  obtain ⟨p, s, h1, h2, h3, ho⟩ := h
  exact ⟨p, s, h1, h2, h3, ho.kept hg (fun e => hr e.symm)⟩
theorem Src.lt {w : World} {S n cap m : Nat} {A : Option Addr} (h : Src w S A n cap m) : S < w.heap.size := by
  obtain ⟨p, s, h1, h2, h3, ho⟩ := h
  exact ho.lt

/-- of the blocks below z only S may be turned -/
structure Gr (z S : Nat) (w w' : World) : Prop where
  os : w'.os = w.os
  tape : w'.tape = w.tape
  output : w'.output = w.output
  size : w.heap.size ≤ w'.heap.size
  block : ∀ i, i < z → i ≠ S → w'.heap[i]? = w.heap[i]?
theorem Gr.refl (z S : Nat) (w : World) : Gr z S w w := ⟨rfl, rfl, rfl, Nat.le_refl _, fun _ _ _ => rfl⟩
theorem Gr.trans {z S : Nat} {w w1 w2 : World} (h : Gr z S w w1) (g : Gr z S w1 w2) : Gr z S w w2 :=
  ⟨g.os.trans h.os, g.tape.trans h.tape, g.output.trans h.output, Nat.le_trans h.size g.size, fun i hi hn => (g.block i hi hn).trans (h.block i hi hn)⟩
theorem Gr.of_grown {z S : Nat} {w w' : World} (h : w.grownBy w' (some S)) (hz : z ≤ w.heap.size) : Gr z S w w' := ⟨h.os, h.tape, h.output, h.size, fun i hi hn => h.block i (by omega) (by simpa using hn)⟩
theorem Gr.of_far {z S T : Nat} {w w' : World} (h : w.grownBy w' (some T)) (hT : z ≤ T) (hz : z ≤ w.heap.size) : Gr z S w w' := ⟨h.os, h.tape, h.output, h.size, fun i hi _ => h.block i (by omega) (by simp; omega)⟩
theorem Gr.of_below {z S D : Nat} {w w' : World} (h : Below D w w') (hz : z ≤ D) : Gr z S w w' := ⟨h.os, h.tape, h.output, h.size, fun i hi _ => h.block i (by omega)⟩
theorem own1_opn {w : World} {base n : Nat} {e : TypeId} {v : Value} {xs : List Value} (h : w.ownsRow base e 1 v n xs) : ∃ A cap, v = .slice A n cap := by
  rcases h.2 with ⟨rfl, rfl⟩ | ⟨g, cap, cur, rfl, _⟩
  · exact ⟨_, _, rfl⟩
  · exact ⟨_, _, rfl⟩
theorem Gr.of_row {z S D : Nat} {w w' : World} {r : Option Nat} (h : w.grownBy w' r) (hr : ∀ k, r = some k → D ≤ k) (hD : z ≤ D) (hz : z ≤ w.heap.size) : Gr z S w w' := ⟨h.os, h.tape, h.output, h.size, fun i hi _ => h.block i (by omega) (fun e => by have := hr i e.symm; omega)⟩
theorem own_gr {w w' : World} {base : Nat} {e : TypeId} {size n z S : Nat} {v : Value} {xs : List Value} (h : w.ownsRow base e size v n xs) (hg : Gr z S w w') (hz : w.heap.size ≤ z) (hS : S < base) : w'.ownsRow base e size v n xs := by
  refine ⟨h.1, ?_⟩
  rcases h.2 with hn | ⟨g, cap, cur, rfl, hbg, hgg, rest⟩
  · exact .inl hn
  · have hlt := (Array.getElem?_eq_some_iff.1 hgg).1
    exact .inr ⟨g, cap, cur, rfl, hbg, by rw [hg.block g (by omega) (by omega)]; exact hgg, rest⟩
theorem below_gr {D z S : Nat} {w w1 w' : World} (h : Below D w w1) (hg : Gr z S w1 w') (hz : D ≤ z) (hS : D ≤ S) : Below D w w' :=
  ⟨hg.os.trans h.os, hg.tape.trans h.tape, hg.output.trans h.output, Nat.le_trans h.size hg.size, fun i hi => (hg.block i (by omega) (by omega)).trans (h.block i hi)⟩
theorem sl_gr {w w' : World} {B z S : Nat} {A : Option Addr} {xs : List Value} (h : Sl w B A xs) (hg : Gr z S w w') (hB : B ≤ S) (hz : B ≤ z) : Sl w' B A xs :=
  h.keep fun p hp => by
    unfold World.cell?
    rw [hg.block p.block (by omega) (by omega)]
theorem Src.more {w : World} {S n cap m m' : Nat} {A : Option Addr} (h : Src w S A n cap m) (hm : m ≤ m') : Src w S A n cap m' := by
  obtain ⟨p, s, h1, h2⟩ := h
  exact ⟨p, s, by omega, h2⟩


set_option maxRecDepth 100000 in
set_option maxHeartbeats 1000000 in
theorem pick2_c (w : World) (S B : Nat) (A : Option Addr) (n cap m : Nat) (c : List Int) (hl : c.length = n) (hn : n ≤ 1048576) (hb : ∀ x ∈ c, 0 ≤ x ∧ x ≤ 255) (hx : Sl w B A (c.map (Value.int .u8))) (hBS : B ≤ S) (hm : m ≤ 1048570) (ho : Src w S A n cap m) (q : Int) (hq1 : 1 ≤ q) (hq : q ≤ 65536) :
    Calls Try.prog 17 #[.pointer (some ⟨S, 0, none⟩), .int .i64 q] w fun e w' => ∃ x : Int, e = .returned (.int .i64 x) ∧ 0 ≤ x ∧ x < q ∧ Src w' S A n cap (m + 2) ∧ w.grownBy w' (some S) := by
  by_cases hs : q ≤ 200
  · refine (pick_c w S B A n cap m c hl hn hb hx hBS hm ho q hq1 hs).mono ?_
    rintro e w' ⟨x, rfl, h0, h1, hs, hg⟩
    exact ⟨x, rfl, h0, h1, hs.more (by omega), hg⟩
  · have HN := Lib.hid (next_c w S B A n cap m c hl hn hb hx hBS (by omega) ho)
    have hBw : B ≤ w.heap.size := by have := ho.lt; omega
    have HX := Lib.hid hx
    have HB := Lib.hid hb
    clear hx hb ho
    go_enter Try.func17, Try.ntmps17
    go_wp2_with fail
    refine HN.out.mono ?_
    rintro e w1 ⟨x, rfl, hx0, hx1, hs, hg⟩
    have HN2 := Lib.hid (next_c w1 S B A n cap (m + 1) c hl hn HB.out (sl_gr HX.out (Gr.of_grown (z := B) hg hBw) hBS (Nat.le_refl _)) hBS (by omega) hs)
    have HG := Lib.hid hg
    have hw1 : IntKind.i64.wrap (x * 256) = x * 256 := IntWalk.i64_in _ (by omega)
    clear hs hg
    go_wp2_with fail
    refine HN2.out.mono ?_
    rintro e w2 ⟨y, rfl, hy0, hy1, hs2, hg2⟩
    have HS := Lib.hid hs2
    have HG2 := Lib.hid hg2
    clear hs2 hg2
    obtain ⟨z, hz⟩ : ∃ z, x * 256 + y = z := ⟨_, rfl⟩
    have hw2 : IntKind.i64.wrap (x * 256 + y) = x * 256 + y := IntWalk.i64_in _ (by omega)
    have hz0 : 0 ≤ x * 256 + y := by omega
    have ht : (x * 256 + y).tmod q = (x * 256 + y) % q := Int.tmod_eq_emod_of_nonneg hz0
    have h2 := Int.emod_nonneg (x * 256 + y) (show q ≠ 0 by omega)
    have h3 := Int.emod_lt_of_pos (x * 256 + y) (show 0 < q by omega)
    generalize (x * 256 + y) % q = r at ht h2 h3
    clear hz z
    go_wp2
    go_ret
    exact ⟨_, rfl, h2, h3, HS.out, HG.out.trans HG2.out⟩


theorem l00From_c (w : World) (A : Option Addr) (n cap : Nat) :
    Calls Try.prog 16 #[.slice A n cap] w fun e w' => e = .returned (.pointer (some ⟨w.heap.size, 0, none⟩)) ∧ Src w' w.heap.size A n cap 0 ∧ Below w.heap.size w w' ∧ w'.heap.size = w.heap.size + 1 := by
  go_enter Try.func16, Try.ntmps16
  go_wp2
  go_ret
  exact ⟨rfl, ⟨0, 0, Nat.le_refl _, by decide, by decide, Obj.new _ _ _⟩, (Below.refl _ _).alloc (Nat.le_refl _) _, by simp⟩

end Go.Proofs.Ytepdjehbgkfjhaa
