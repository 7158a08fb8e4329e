/-
  Contract: the laws' valid code, made of bytes.
  Conditions: at most 1048576 bytes.
-/
import Derived.Test.YtldnhflgpbcmeaaEP
namespace Go.Proofs.Ytldnhflgpbcmeaa
open Go.RowKit


set_option maxRecDepth 100000 in
set_option maxHeartbeats 1000000 in
theorem l06DrawOk_c (w : World) (S B : Nat) (A : Option Addr) (n cap m : Nat) (c : List Int) (hl : c.length = n) (hn : n ≤ 1048576) (hb : ∀ x ∈ c, 0 ≤ x ∧ x ≤ 255) (hx : Sl w B A (c.map (Value.int .u8))) (hBS : B ≤ S) (hm : m ≤ 1000000) (ho : Src w S A n cap m) :
    Calls Try.prog 40 #[.pointer (some ⟨S, 0, none⟩)] w fun e w' => ∃ (wd : Nat) (v : Value) (xs : List Int), e = .returned (.agg #[.int .i64 (wd : Int), v]) ∧ 2 ≤ wd ∧ wd ≤ 8 ∧ Ow w' w.heap.size 2 v (xs.map (Value.int .i64)) ∧ validParB (wd : Int) xs = true ∧ xs.length ≤ 4 ∧ Gr w.heap.size S w w' := by
  have hSz := ho.lt
  obtain ⟨w1, e1⟩ : ∃ q : World, q = w.alloc (.cells #[.int .i64 0, .slice none 0 0] 27) := ⟨_, rfl⟩
  have b1 : Below w.heap.size w w1 := by rw [e1]; exact (Below.refl _ _).alloc (Nat.le_refl _) _
  have z1 : w1.heap.size = w.heap.size + 1 := by rw [e1]; simp
  have hR1 : Obj w1 w.heap.size 27 #[.int .i64 0, .slice none 0 0] := by rw [e1]; exact Obj.new _ _ _
  have hs1 := ho.below b1 hSz
  have hBz : B ≤ w.heap.size := by omega
  have g1 := Gr.of_below (S := S) b1 (Nat.le_refl _)
  have hx1 := sl_gr hx g1 hBS hBz
  have HP1 := Lib.hid (pick2_c w1 S B A n cap m c hl hn hb hx1 hBS (by omega) hs1 7 (by decide) (by decide))
  have HX := Lib.hid hx
  have HB := Lib.hid hb
  have HR := Lib.hid hR1
  have HG := Lib.hid g1
  clear hx hb ho hs1 hR1 g1 hx1
  go_enter Try.func40, Try.ntmps40
  go_wp2_with (rw [← e1]; clear e1)
  refine HP1.out.mono ?_
  rintro e w2 ⟨x, rfl, hx0, hx7, hs2, hg2⟩
  obtain ⟨a, rfl⟩ : ∃ a : Nat, x = a := ⟨x.toNat, by omega⟩
  have g2 := HG.out.trans (Gr.of_grown hg2 (by omega))
  have z2 := hg2.size
  have hR2 := HR.out.kept hg2 (by simp; omega)
  have hx2 := sl_gr HX.out g2 hBS hBz
  have HP2 := Lib.hid (pick2_c w2 S B A n cap (m + 2) c hl hn HB.out hx2 hBS (by omega) hs2 4 (by decide) (by decide))
  have HR2 := Lib.hid hR2
  have HG2 := Lib.hid g2
  clear hs2 hg2 g2 hR2 hx2 HP1
  go_wp2_with fail
  refine HP2.out.mono ?_
  rintro e w3 ⟨y, rfl, hy0, hy4, hs3, hg3⟩
  obtain ⟨b, rfl⟩ : ∃ b : Nat, y = b := ⟨y.toNat, by omega⟩
  have g3 := HG2.out.trans (Gr.of_grown hg3 (by omega))
  have z3 := hg3.size
  have hR3 := HR2.out.kept hg3 (by simp; omega)
  have hx3 := sl_gr HX.out g3 hBS hBz
  have hc1 : (2 : Int) + (a : Int) = ((2 + a : Nat) : Int) := by omega
  have hc2 : (1 : Int) + (b : Int) = ((1 + b : Nat) : Int) := by omega
  have HD := Lib.hid (l06DrawSides_c w3 S B A n cap (m + 2 + 2) c hl hn HB.out hx3 hBS (by omega) hs3 (2 + a) (1 + b) (by omega) (by omega) (by omega))
  rw [← hc1, ← hc2] at HD
  have HR3 := Lib.hid hR3
  have HG3 := Lib.hid g3
  clear hs3 hg3 g3 hR3 hx3 HP2 hc1 hc2
  go_wp2_with fail
  refine HD.out.mono ?_
  rintro e w4 ⟨v, xs, rfl, ho4, hv, hl4, -, g4⟩
  obtain ⟨A4, c4, rfl, hp4⟩ := ho4.opn
  have z4 := g4.size
  have hR4 : Obj w4 w.heap.size 27 #[.int .i64 0, .slice none 0 0] := by
    have h := HR3.out
    unfold Obj at h ⊢
    rw [g4.block _ (by omega) (by omega)]
    exact h
  obtain ⟨⟨r0, r1⟩, q0, q1⟩ := hR4.two
  have HV := Lib.hid hv
  have HP := Lib.hid hp4
  have HG4 := Lib.hid g4
  obtain ⟨L, hL⟩ : ∃ L, xs.length = L := ⟨_, rfl⟩
  rw [hL] at HP ⊢
  have HL := Lib.hid hL
  clear ho4 hp4 hv g4 hR4 hL
  go_wp2
  refine bodyPost_ret (v := .agg #[.int .i64 (2 + (a : Int)), .slice A4 L c4]) (by unfold results; rw [Try.results40]; go_simp) rfl ?_
  refine ⟨2 + a, .slice A4 L c4, xs, by push_cast; rfl, by omega, by omega, ?_, by push_cast; exact HV.out, hl4, ?_⟩
  · unfold Ow
    rw [List.length_map, HL.out]
    refine own_base (base := w3.heap.size) ?_ (by omega)
    iterate 2 (refine ownsRow_setCell_below ?_ (by simp; omega) _)
    have h := HP.out
    exact h
  · refine Gr.trans (Gr.trans (HG3.out.trans ⟨HG4.out.os, HG4.out.tape, HG4.out.output, HG4.out.size, fun i hi hne => HG4.out.block i (by omega) hne⟩) (Gr.of_far (grownBy_set _ w.heap.size 0 _) (Nat.le_refl _) (by omega))) (Gr.of_far (grownBy_set _ w.heap.size 1 _) (Nat.le_refl _) (by simp; omega))


set_option maxRecDepth 100000 in
set_option maxHeartbeats 1000000 in
theorem R8Parity_c (w : World) (A : Option Addr) (n cap : Nat) (c : List Int) (hl : c.length = n) (hn : n ≤ 1048576) (hb : ∀ x ∈ c, 0 ≤ x ∧ x ≤ 255) (hx : Sl w w.heap.size A (c.map (Value.int .u8))) :
    Calls Try.prog 13 #[.slice A n cap] w fun e w' => ∃ (wd : Nat) (v : Value) (xs : List Int), e = .returned (.agg #[.int .i64 (wd : Int), v]) ∧ 2 ≤ wd ∧ wd ≤ 8 ∧ Ow w' w.heap.size 2 v (xs.map (Value.int .i64)) ∧ validParB (wd : Int) xs = true ∧ xs.length ≤ 4 ∧ Below w.heap.size w w' := by
  obtain ⟨w1, e1⟩ : ∃ q : World, q = w.alloc (.cells #[.int .i64 0, .slice none 0 0] 27) := ⟨_, rfl⟩
  have b1 : Below w.heap.size w w1 := by rw [e1]; exact (Below.refl _ _).alloc (Nat.le_refl _) _
  have z1 : w1.heap.size = w.heap.size + 1 := by rw [e1]; simp
  have hR1 : Obj w1 w.heap.size 27 #[.int .i64 0, .slice none 0 0] := by rw [e1]; exact Obj.new _ _ _
  have hx1 := (hx.below b1).more b1.size
  have HX := Lib.hid hx1
  have HB := Lib.hid hb
  have HR := Lib.hid hR1
  clear hx hb hR1 hx1
  go_enter Try.func13, Try.ntmps13
  go_wp2_with (rw [← e1]; clear e1)
  refine (l00From_c w1 A n cap).mono ?_
  rintro e w2 ⟨rfl, hs2, b2, z2⟩
  have hR2 := HR.out.below b2 (by omega)
  have hx2 := HX.out.below b2
  have HD := Lib.hid (l06DrawOk_c w2 w1.heap.size w1.heap.size A n cap 0 c hl hn HB.out hx2 (Nat.le_refl _) (by omega) hs2)
  have HR2 := Lib.hid hR2
  clear hs2 hR2 hx2
  go_wp2_with fail
  rw [← z1]
  refine HD.out.mono ?_
  rintro e w4 ⟨wd, v, xs, rfl, hw2, hw8, ho4, hv, hl4, g4⟩
  obtain ⟨A4, c4, rfl, hp4⟩ := ho4.opn
  have z4 := g4.size
  have hR4 : Obj w4 w.heap.size 27 #[.int .i64 0, .slice none 0 0] := by
    have h := HR2.out
    unfold Obj at h ⊢
    rw [g4.block _ (by omega) (by omega)]
    exact h
  obtain ⟨⟨r0, r1⟩, q0, q1⟩ := hR4.two
  have HV := Lib.hid hv
  have HP := Lib.hid hp4
  have HG4 := Lib.hid g4
  obtain ⟨L, hL⟩ : ∃ L, xs.length = L := ⟨_, rfl⟩
  rw [hL] at HP ⊢
  have HL := Lib.hid hL
  clear ho4 hp4 hv g4 hR4 hL
  go_wp2
  refine bodyPost_ret (v := .agg #[.int .i64 (wd : Int), .slice A4 L c4]) (by unfold results; rw [Try.results13]; go_simp) rfl ?_
  refine ⟨wd, .slice A4 L c4, xs, rfl, hw2, hw8, ?_, HV.out, hl4, ?_⟩
  · unfold Ow
    rw [List.length_map, HL.out]
    refine own_base (base := w2.heap.size) ?_ (by omega)
    iterate 2 (refine ownsRow_setCell_below ?_ (by simp; omega) _)
    exact HP.out
  · refine below_put (below_put ?_ (Nat.le_refl _) _ _) (Nat.le_refl _) _ _
    exact below_gr (b1.trans (b2.mono b1.size)) HG4.out (by omega) (by omega)

end Go.Proofs.Ytldnhflgpbcmeaa
