/-
  Contracts: words in a code, their messages, rows in steps as a code.
  Conditions: valid codes, words in them.
-/
import Derived.Test.YtldnhflgpbcmeaaED
namespace Go.Proofs.Ytldnhflgpbcmeaa
open Go.RowKit


set_option maxRecDepth 100000 in
set_option maxHeartbeats 1000000 in
theorem impl_InCode_c (w : World) (m : Int) (A : Option Addr) (n cap : Nat) (xs : List Int) (hl : xs.length = n) (hn : n ≤ 8) (hx : Sl w w.heap.size A (xs.map (Value.int .i64))) (word : Int) (hc : canB m xs word = true) (hw : ∃ k : Nat, k < 2 ^ n ∧ encL xs (k : Int) = word) :
    Calls Try.prog 12 #[.agg #[.int .i64 m, .slice A n cap], .int .i64 word] w fun e w' => e = .returned (.tuple #[.bool true, .bool true]) ∧ Below w.heap.size w w' := by
  obtain ⟨k0, hk0, he, hmin⟩ := msg_least hw
  obtain ⟨w1, e1⟩ : ∃ q : World, q = w.alloc (.cells #[.int .i64 m, .slice A n cap] 27) := ⟨_, rfl⟩
  have b1 : Below w.heap.size w w1 := by rw [e1]; exact (Below.refl _ _).alloc (Nat.le_refl _) _
  have z1 : w1.heap.size = w.heap.size + 1 := by rw [e1]; simp
  have hq : Obj w1 w.heap.size 27 #[.int .i64 m, .slice A n cap] := by rw [e1]; exact Obj.new _ _ _
  have hx1 := (hx.below b1).more b1.size
  obtain ⟨⟨c0, c1⟩, -⟩ := hq.two
  have HH := Lib.hid (impl_has_c w1 m A n cap xs hl (by omega) hx1 word)
  have HX := Lib.hid hx1
  have HQ := Lib.hid hq
  have HE := Lib.hid he
  have HM := Lib.hid hmin
  have HC := Lib.hid hc
  have HK := Lib.hid hk0
  clear hx hx1 hq he hmin hw hc hk0
  go_enter Try.func12, Try.ntmps12
  go_wp2_with (rw [← e1]; clear e1)
  clear c0 c1
  refine HH.out.mono ?_
  rintro e w2 ⟨rfl, b2⟩
  rw [HC.out]
  have z2 := b2.size
  have hq := HQ.out.below b2 (by omega)
  obtain ⟨⟨c0, c1⟩, -⟩ := hq.two
  have hx2 := (HX.out.below b2).more b2.size
  clear hq
  go_wp2_with fail
  clear c0 c1
  refine (impl_decode_c w2 m A n cap xs hl hn hx2 word k0 HK.out HE.out HM.out).mono ?_
  rintro e w3 ⟨rfl, b3⟩
  go_wp2
  go_ret2
  exact ⟨rfl, b1.trans ((b2.trans (b3.mono b2.size)).mono b1.size)⟩


set_option maxRecDepth 100000 in
set_option maxHeartbeats 1000000 in
theorem impl_DecodeBits_c (w : World) (m : Int) (A : Option Addr) (n cap : Nat) (xs : List Int) (hl : xs.length = n) (hn : n ≤ 8) (hx : Sl w w.heap.size A (xs.map (Value.int .i64))) (word : Int) (hc : canB m xs word = true) (k0 : Nat) (hk0 : k0 < 2 ^ n) (he : encL xs (k0 : Int) = word) (hmin : ∀ j : Nat, j < k0 → encL xs (j : Int) ≠ word) :
    Calls Try.prog 20 #[.agg #[.int .i64 m, .slice A n cap], .int .i64 word] w fun e w' => e = .returned (.tuple #[.int .i64 (k0 : Int), .bool true]) ∧ Below w.heap.size w w' := by
  obtain ⟨w1, e1⟩ : ∃ q : World, q = w.alloc (.cells #[.int .i64 m, .slice A n cap] 27) := ⟨_, rfl⟩
  have b1 : Below w.heap.size w w1 := by rw [e1]; exact (Below.refl _ _).alloc (Nat.le_refl _) _
  have z1 : w1.heap.size = w.heap.size + 1 := by rw [e1]; simp
  have hq : Obj w1 w.heap.size 27 #[.int .i64 m, .slice A n cap] := by rw [e1]; exact Obj.new _ _ _
  have hx1 := (hx.below b1).more b1.size
  obtain ⟨⟨c0, c1⟩, -⟩ := hq.two
  have HH := Lib.hid (impl_has_c w1 m A n cap xs hl (by omega) hx1 word)
  have HX := Lib.hid hx1
  have HQ := Lib.hid hq
  have HE := Lib.hid he
  have HM := Lib.hid hmin
  have HC := Lib.hid hc
  have HK := Lib.hid hk0
  clear hx hx1 hq he hmin hc hk0
  go_enter Try.func20, Try.ntmps20
  go_wp2_with (rw [← e1]; clear e1)
  clear c0 c1
  refine HH.out.mono ?_
  rintro e w2 ⟨rfl, b2⟩
  rw [HC.out]
  have z2 := b2.size
  have hq := HQ.out.below b2 (by omega)
  obtain ⟨⟨c0, c1⟩, -⟩ := hq.two
  have hx2 := (HX.out.below b2).more b2.size
  clear hq
  go_wp2_with fail
  clear c0 c1
  refine (impl_decode_c w2 m A n cap xs hl hn hx2 word k0 HK.out HE.out HM.out).mono ?_
  rintro e w3 ⟨rfl, b3⟩
  go_wp2
  go_ret2
  exact ⟨rfl, b1.trans ((b2.trans (b3.mono b2.size)).mono b1.size)⟩


set_option maxRecDepth 100000 in
set_option maxHeartbeats 1000000 in
theorem impl_EchelonOf_c (w : World) (M : Nat) (A : Option Addr) (n cap : Nat) (xs : List Int) (hl : xs.length = n) (hx : Sl w w.heap.size A (xs.map (Value.int .i64))) (hv : validParB (M : Int) xs = true) :
    Calls Try.prog 21 #[.agg #[.int .i64 (M : Int), .slice A n cap]] w fun e w' => ∃ v, e = .returned (.tuple #[.agg #[.int .i64 (M : Int), v], .bool true]) ∧ Ow w' w.heap.size 2 v ((echL M xs).map (Value.int .i64)) ∧ Below w.heap.size w w' := by
  have hd := du_of hv
  have hm := hd.m
  have h1 := hd.n1
  have h8 := hd.n8
  rw [hl] at h1 h8
  clear hd
  obtain ⟨w1, e1⟩ : ∃ q : World, q = (w.alloc (.cells #[.int .i64 (M : Int), .slice A n cap] 27)).alloc (.cells #[.int .i64 0, .slice none 0 0] 27) := ⟨_, rfl⟩
  have b1 : Below w.heap.size w w1 := by rw [e1]; exact ((Below.refl _ _).alloc (Nat.le_refl _) _).alloc (by simp) _
  have z1 : w1.heap.size = w.heap.size + 1 + 1 := by rw [e1]; simp
  have hq : Obj w1 w.heap.size 27 #[.int .i64 (M : Int), .slice A n cap] := by rw [e1]; exact (Obj.new _ _ _).alloc _
  have hr : Obj w1 (w.heap.size + 1) 27 #[.int .i64 0, .slice none 0 0] := by
    have := Obj.new (w.alloc (.cells #[.int .i64 (M : Int), .slice A n cap] 27)) 27 #[.int .i64 0, .slice none 0 0]
    rw [e1]; simpa using this
  have hx1 := (hx.below b1).more b1.size
  obtain ⟨⟨c0, c1⟩, -⟩ := hq.two
  have HH := Lib.hid (impl_ValidParity_c w1 M A n cap xs hl (by omega) hx1)
  have HX := Lib.hid hx1
  have HQ := Lib.hid hq
  have HR := Lib.hid hr
  have HV := Lib.hid hv
  clear hx hx1 hq hr hv
  go_enter Try.func21, Try.ntmps21
  go_wp2_with (rw [← e1]; clear e1)
  clear c0 c1
  refine HH.out.mono ?_
  rintro e w2 ⟨rfl, b2⟩
  rw [HV.out]
  have z2 := b2.size
  have hq := HQ.out.below b2 (by omega)
  obtain ⟨⟨c0, c1⟩, -⟩ := hq.two
  have hx2 := (HX.out.below b2).more b2.size
  have HQ2 := Lib.hid hq
  clear hq
  go_wp2_with fail
  clear c0 c1
  refine (impl_echelon_c w2 M hm A n cap xs hl h1 h8 hx2).mono ?_
  rintro e w3 ⟨v, rfl, ho, b3⟩
  obtain ⟨S, k, rfl, hp⟩ := ho.opn
  clear ho
  have hel : (stepsOf (M : Int) xs).1.length = n := by rw [← hl]; exact echL_len M xs
  rw [hel] at hp ⊢
  have z3 := b3.size
  have B3 := b2.trans (b3.mono b2.size)
  have hq := HQ2.out.below b3 (by omega)
  have hr := HR.out.below B3 (by omega)
  obtain ⟨⟨c0, c1⟩, -⟩ := hq.two
  obtain ⟨⟨d0, d1⟩, g0, g1⟩ := hr.two
  have HP := Lib.hid hp
  clear hp hq hr HH
  go_wp2
  refine bodyPost_ret (v := .tuple #[.agg #[.int .i64 (M : Int), .slice S n k], .bool true]) (by unfold results; rw [Try.results21]; go_simp) rfl ?_
  refine ⟨_, rfl, ?_, ?_⟩
  · unfold Ow
    rw [List.length_map, echL_len, hl]
    refine own_base (base := w2.heap.size) ?_ (by omega)
    iterate 2 (refine ownsRow_setCell_below ?_ (by simp; omega) _)
    exact HP.out
  · iterate 2 (refine below_put ?_ (by omega) _ _)
    exact b1.trans (B3.mono b1.size)

end Go.Proofs.Ytldnhflgpbcmeaa
