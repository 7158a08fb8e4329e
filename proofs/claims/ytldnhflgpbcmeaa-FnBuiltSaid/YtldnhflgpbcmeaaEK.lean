/-
  Contracts: syndromes of words, leaders of a code, words mended, of the program.
  Conditions: valid codes whose other code is valid; words in them.
-/
import Derived.Test.YtldnhflgpbcmeaaEJ
namespace Go.Proofs.Ytldnhflgpbcmeaa
open Go.RowKit

/-- a valid code whose other code is valid -/
structure Dv (M n : Nat) (xs : List Int) : Prop where
  v : validParB (M : Int) xs = true
  d : validParB (M : Int) (dualL M xs) = true
  l : xs.length = n
  m : M ≤ 16
  n8 : n ≤ 8
  d8 : (dualL M xs).length ≤ 8
  d1 : 1 ≤ (dualL M xs).length
  rm : RM 16 (dualL M xs)
theorem RM.to16 {M : Nat} (hM : M ≤ 16) {D : List Int} (h : RM M D) : RM 16 D := fun i => by
  have h1 := h i
  have h2 := pow16 hM
  omega
theorem dv_of {M n : Nat} {xs : List Int} (hl : xs.length = n) (hv : validParB (M : Int) xs = true) (hd : validParB (M : Int) (dualL M xs) = true) : Dv M n xs := by
  have h := du_of hv
  have h2 := par_facts (valid_parts hd).1
  exact ⟨hv, hd, hl, h.m, by rw [← hl]; exact h.n8, h2.2.2.2.1, h2.2.2.1, h.rmD.to16 h.m⟩
theorem can_yes {M : Nat} {xs : List Int} {x : Int} (hv : validParB (M : Int) xs = true) (h0 : 0 ≤ x) (h1 : x < 2 ^ M) : canB (M : Int) xs x = true := by
  unfold canB
  rw [hv, Int.toNat_natCast, Bool.true_and, inB_true]
  omega


set_option maxRecDepth 100000 in
set_option maxHeartbeats 1000000 in
theorem impl_LeadersOf_c (w : World) (M : Nat) (A : Option Addr) (n cap : Nat) (xs : List Int) (h : Dv M n xs) (hx : Sl w w.heap.size A (xs.map (Value.int .i64))) :
    Calls Try.prog 26 #[.agg #[.int .i64 (M : Int), .slice A n cap]] w fun e w' => ∃ v, e = .returned (.tuple #[v, .bool true]) ∧ Ow w' w.heap.size 2 v ((leadK (dualL M xs) (2 ^ M)).map (Value.int .i64)) ∧ Below w.heap.size w w' := by
  obtain ⟨w1, e1⟩ : ∃ q : World, q = w.alloc (.cells #[.int .i64 (M : Int), .slice A n cap] 27) := ⟨_, rfl⟩
  have b1 : Below w.heap.size w w1 := by rw [e1]; exact (Below.refl _ _).alloc (Nat.le_refl _) _
  have z1 : w1.heap.size = w.heap.size + 1 := by rw [e1]; simp
  have hq : Obj w1 w.heap.size 27 #[.int .i64 (M : Int), .slice A n cap] := by rw [e1]; exact Obj.new _ _ _
  have hx1 := (hx.below b1).more b1.size
  obtain ⟨⟨c0, c1⟩, -⟩ := hq.two
  have HD := Lib.hid (impl_DualOf_c w1 M A n cap xs h.l hx1 h.v)
  rw [h.d] at HD
  simp only [asP] at HD
  obtain ⟨D, hD⟩ : ∃ D, dualL M xs = D := ⟨_, rfl⟩
  have h8 := h.d8
  have hrm := h.rm
  rw [hD] at HD h8 hrm ⊢
  obtain ⟨dn, hdn⟩ : ∃ dn, D.length = dn := ⟨_, rfl⟩
  rw [hdn] at HD h8
  have HL := Lib.hid (fun W S k hS => impl_leaders_c W M h.m S dn k D hdn h8 hrm hS)
  clear hx hx1 hq h hD hdn hrm
  go_enter Try.func26, Try.ntmps26
  go_wp2_with (rw [← e1]; clear e1)
  clear c0 c1
  refine HD.out.mono ?_
  rintro e w2 ⟨S, k, rfl, hp, b2⟩
  obtain ⟨w3, e3⟩ : ∃ q : World, q = w2.alloc (.cells #[.int .i64 (M : Int), .slice S dn k] 27) := ⟨_, rfl⟩
  have b3 : Below w2.heap.size w2 w3 := by rw [e3]; exact (Below.refl _ _).alloc (Nat.le_refl _) _
  have hq3 : Obj w3 w2.heap.size 27 #[.int .i64 (M : Int), .slice S dn k] := by rw [e3]; exact Obj.new _ _ _
  have hp3 := own_below hp b3 (Nat.le_refl _)
  obtain ⟨⟨c0, c1⟩, -⟩ := hq3.two
  have z2 := b2.size
  have z3 := b3.size
  have HP := Lib.hid hp3
  have B3 := b1.trans ((b2.trans (b3.mono b2.size)).mono b1.size)
  clear hp hq3 HD hp3
  go_wp2_with (rw [← e3]; clear e3)
  clear c0 c1
  refine (HL.out w3 S k (sl_of_own HP.out)).mono ?_
  rintro e w4 ⟨v, rfl, ho, b4⟩
  go_wp2
  go_ret2
  exact ⟨_, rfl, own_base ho B3.size, B3.trans (b4.mono B3.size)⟩


set_option maxRecDepth 100000 in
set_option maxHeartbeats 1000000 in
theorem impl_SyndromeOf_c (w : World) (M : Nat) (A : Option Addr) (n cap : Nat) (xs : List Int) (h : Dv M n xs) (hx : Sl w w.heap.size A (xs.map (Value.int .i64))) (x : Int) (h0 : 0 ≤ x) (h1 : x < 2 ^ M) :
    Calls Try.prog 25 #[.agg #[.int .i64 (M : Int), .slice A n cap], .int .i64 x] w fun e w' => e = .returned (.tuple #[.int .i64 (synL (dualL M xs) x : Int), .bool true]) ∧ Below w.heap.size w w' := by
  have hp16 := pow16 h.m
  have h8n := h.n8
  obtain ⟨w1, e1⟩ : ∃ q : World, q = w.alloc (.cells #[.int .i64 (M : Int), .slice A n cap] 27) := ⟨_, rfl⟩
  have b1 : Below w.heap.size w w1 := by rw [e1]; exact (Below.refl _ _).alloc (Nat.le_refl _) _
  have z1 : w1.heap.size = w.heap.size + 1 := by rw [e1]; simp
  have hq : Obj w1 w.heap.size 27 #[.int .i64 (M : Int), .slice A n cap] := by rw [e1]; exact Obj.new _ _ _
  have hx1 := (hx.below b1).more b1.size
  obtain ⟨⟨c0, c1⟩, -⟩ := hq.two
  have HD := Lib.hid (impl_DualOf_c w1 M A n cap xs h.l hx1 h.v)
  rw [h.d] at HD
  simp only [asP] at HD
  have hcan := can_yes h.v h0 h1
  have HH := Lib.hid (fun W hW => impl_has_c W (M : Int) A n cap xs h.l (by omega) hW x)
  rw [hcan] at HH
  obtain ⟨D, hD⟩ : ∃ D, dualL M xs = D := ⟨_, rfl⟩
  have h8 := h.d8
  have hrm := h.rm
  rw [hD] at HD h8 hrm ⊢
  obtain ⟨dn, hdn⟩ : ∃ dn, D.length = dn := ⟨_, rfl⟩
  rw [hdn] at HD h8
  have HS := Lib.hid (fun W B S k hS => impl_syndrome_c W B S dn k D hdn h8 hrm hS x h0 (by omega))
  have HX := Lib.hid hx1
  have HQ := Lib.hid hq
  clear hx hx1 hq h hD hdn hrm hcan
  go_enter Try.func25, Try.ntmps25
  go_wp2_with (rw [← e1]; clear e1)
  clear c0 c1
  refine HD.out.mono ?_
  rintro e w2 ⟨S, k, rfl, hp, b2⟩
  obtain ⟨w3, e3⟩ : ∃ q : World, q = w2.alloc (.cells #[.int .i64 (M : Int), .slice S dn k] 27) := ⟨_, rfl⟩
  have b3 : Below w2.heap.size w2 w3 := by rw [e3]; exact (Below.refl _ _).alloc (Nat.le_refl _) _
  have hq3 : Obj w3 w2.heap.size 27 #[.int .i64 (M : Int), .slice S dn k] := by rw [e3]; exact Obj.new _ _ _
  have z2 := b2.size
  have z3 : w3.heap.size = w2.heap.size + 1 := by rw [e3]; simp
  have B13 := b2.trans (b3.mono b2.size)
  have hq := HQ.out.below B13 (by omega)
  have hx3 := (HX.out.below B13).more B13.size
  have hp3 := own_below hp b3 (Nat.le_refl _)
  obtain ⟨⟨c0, c1⟩, -⟩ := hq.two
  have HX3 := Lib.hid hx3
  have HQ3 := Lib.hid hq3
  have HP := Lib.hid hp3
  clear hp hq hq3 HD hp3 hx3 b2 b3
  go_wp2_with (rw [← e3]; clear e3)
  clear c0 c1
  refine (HH.out w3 HX3.out).mono ?_
  rintro e w4 ⟨rfl, b4⟩
  have z4 := b4.size
  have hq4 := HQ3.out.below b4 (by omega)
  obtain ⟨⟨c0, c1⟩, -⟩ := hq4.two
  have hp4 := own_below HP.out b4 (Nat.le_refl _)
  have HS4 := Lib.hid (HS.out w4 w4.heap.size S k (sl_of_own hp4))
  clear HP hq4 hp4 HH
  go_wp2_with (go_at_call 48; refine HS4.out.mono ?_; rintro e w' ⟨rfl, rfl⟩)
  go_ret2
  exact ⟨rfl, b1.trans ((B13.trans (b4.mono B13.size)).mono b1.size)⟩

end Go.Proofs.Ytldnhflgpbcmeaa
