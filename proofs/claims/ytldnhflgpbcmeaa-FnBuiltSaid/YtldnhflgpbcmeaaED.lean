/-
  Contracts: words of messages, messages of words, rows in steps, of the program.
  Conditions: valid codes.
-/
import Derived.Test.YtldnhflgpbcmeaaEC
import Derived.Test.YtldnhflgpbcmeaaOB
import Derived.Test.YtldnhflgpbcmeaaRE
namespace Go.Proofs.Ytldnhflgpbcmeaa
open Go.RowKit


set_option maxRecDepth 100000 in
set_option maxHeartbeats 1000000 in
theorem impl_decode_c (w : World) (m : Int) (A : Option Addr) (n cap : Nat) (xs : List Int) (hl : xs.length = n) (hn : n ≤ 8) (hx : Sl w w.heap.size A (xs.map (Value.int .i64))) (word : Int) (k0 : Nat) (hk0 : k0 < 2 ^ n) (he : encL xs (k0 : Int) = word) (hmin : ∀ j : Nat, j < k0 → encL xs (j : Int) ≠ word) :
    Calls Try.prog 38 #[.agg #[.int .i64 m, .slice A n cap], .int .i64 word] w fun e w' => e = .returned (.tuple #[.int .i64 (k0 : Int), .bool true]) ∧ Below w.heap.size w w' := by
  obtain ⟨N, hN⟩ : ∃ N, 2 ^ n = N := ⟨_, rfl⟩
  have hp := pow8 hn
  rw [hN] at hp hk0
  obtain ⟨w1, e1⟩ : ∃ q : World, q = w.alloc (.cells #[.int .i64 m, .slice A n cap] 27) := ⟨_, rfl⟩
  have b1 : Below w.heap.size w w1 := by rw [e1]; exact (Below.refl _ _).alloc (Nat.le_refl _) _
  have z1 : w1.heap.size = w.heap.size + 1 := by rw [e1]; simp
  have hq : Obj w1 w.heap.size 27 #[.int .i64 m, .slice A n cap] := by rw [e1]; exact Obj.new _ _ _
  have hx1 := (hx.below b1).more b1.size
  obtain ⟨⟨c0, c1⟩, -⟩ := hq.two
  have HE := Lib.hid he
  have HM := Lib.hid hmin
  have HX := Lib.hid hx1
  have HQ := Lib.hid hq
  clear he hmin hx hx1 hq
  go_enter Try.func38, Try.ntmps38
  go_wp2_with (rw [← e1]; clear e1)
  clear c0 c1
  refine (impl_messages_c w1 m A n cap N hn hN).mono ?_
  rintro e w2 ⟨rfl, b2⟩
  have z2 := b2.size
  go_wp2_with fail
  go_loopw [9] (fun i wr => ∃ k : Nat, k ≤ k0 ∧ i = .int .i64 k ∧ Below w1.heap.size w1 wr) (fun i _ => k0 - (intOf i).toNat)
  case atStart => exact ⟨0, Nat.zero_le _, rfl, b2⟩
  case round =>
    clear b2
    obtain ⟨k, hk, rfl, hb⟩ := hrel
    have hlt : (k : Int) < (N : Int) := by omega
    have hq := HQ.out.below hb (by omega)
    have hxr := (HX.out.below hb).more hb.size
    obtain ⟨⟨c0, c1⟩, -⟩ := hq.two
    clear hq
    go_wp2_with fail
    refine (impl_encode_c wr m A n cap xs hl hn hxr k).mono ?_
    rintro e w3 ⟨rfl, b3⟩
    have hb3 := hb.trans (b3.mono hb.size)
    clear c0 c1 hb hxr
    by_cases hkk : k = k0
    · subst hkk
      rw [HE.out]
      go_wp2
      go_ret2
      exact ⟨rfl, b1.trans (hb3.mono b1.size)⟩
    · have hne : (encL xs (k : Int) == word) = false := by simpa using HM.out k (by omega)
      have HNE := Lib.hid hne
      go_wp2
      go_roundw
      case rel => exact ⟨k + 1, by omega, by go_num, hb3⟩
      case measure => simp [intOf]; omega
/-- the least message of a word -/
theorem msg_least {xs : List Int} {n : Nat} {word : Int} (h : ∃ k : Nat, k < 2 ^ n ∧ encL xs (k : Int) = word) : ∃ k0 : Nat, k0 < 2 ^ n ∧ encL xs (k0 : Int) = word ∧ ∀ j : Nat, j < k0 → encL xs (j : Int) ≠ word := by
  obtain ⟨k, hk, he⟩ := h
  induction k using Nat.strongRecOn with
  | _ k ih =>
    by_cases hj : ∃ j : Nat, j < k ∧ encL xs (j : Int) = word
    · obtain ⟨j, h1, h2⟩ := hj
      exact ih j h1 (by omega) h2
    · exact ⟨k, hk, he, fun j h1 h2 => hj ⟨j, h1, h2⟩⟩


set_option maxRecDepth 100000 in
set_option maxHeartbeats 1000000 in
theorem impl_EncodeBits_c (w : World) (m : Int) (A : Option Addr) (n cap : Nat) (xs : List Int) (hl : xs.length = n) (hn : n ≤ 8) (hx : Sl w w.heap.size A (xs.map (Value.int .i64))) (hv : validParB m xs = true) (msg : Nat) (hm : msg < 2 ^ n) :
    Calls Try.prog 19 #[.agg #[.int .i64 m, .slice A n cap], .int .i64 (msg : Int)] w fun e w' => e = .returned (.tuple #[.int .i64 (encL xs (msg : Int)), .bool true]) ∧ Below w.heap.size w w' := by
  obtain ⟨N, hN⟩ : ∃ N, 2 ^ n = N := ⟨_, rfl⟩
  have hp := pow8 hn
  rw [hN] at hp hm
  obtain ⟨w1, e1⟩ : ∃ q : World, q = w.alloc (.cells #[.int .i64 m, .slice A n cap] 27) := ⟨_, rfl⟩
  have b1 : Below w.heap.size w w1 := by rw [e1]; exact (Below.refl _ _).alloc (Nat.le_refl _) _
  have z1 : w1.heap.size = w.heap.size + 1 := by rw [e1]; simp
  have hq : Obj w1 w.heap.size 27 #[.int .i64 m, .slice A n cap] := by rw [e1]; exact Obj.new _ _ _
  have hx1 := (hx.below b1).more b1.size
  obtain ⟨⟨c0, c1⟩, -⟩ := hq.two
  have HX := Lib.hid hx1
  have HQ := Lib.hid hq
  have HV := Lib.hid hv
  have hin : inB (msg : Int) 0 ((N : Int) - 1) = true := by rw [inB_true]; omega
  have HI := Lib.hid hin
  clear hx hx1 hq hv hin
  go_enter Try.func19, Try.ntmps19
  go_wp2_with (rw [← e1]; clear e1)
  clear c0 c1
  refine (impl_ValidParity_c w1 m A n cap xs hl (by omega) HX.out).mono ?_
  rintro e w2 ⟨rfl, b2⟩
  rw [HV.out]
  have z2 := b2.size
  have hq := HQ.out.below b2 (by omega)
  obtain ⟨⟨c0, c1⟩, -⟩ := hq.two
  have HQ2 := Lib.hid hq
  clear hq
  go_wp2_with fail
  clear c0 c1
  refine (impl_messages_c w2 m A n cap N hn hN).mono ?_
  rintro e w3 ⟨rfl, b3⟩
  have z3 := b3.size
  have hq := HQ2.out.below b3 (by omega)
  obtain ⟨⟨c0, c1⟩, -⟩ := hq.two
  have hB3 := b2.trans (b3.mono b2.size)
  have hx3 := (HX.out.below hB3).more hB3.size
  clear hq b2 b3
  go_wp2_with (go_at_call 30; refine (impl_within_c _ _ _ _).mono ?_; rintro e w' ⟨rfl, rfl⟩; rw [HI.out])
  clear c0 c1
  refine (impl_encode_c w3 m A n cap xs hl hn hx3 msg).mono ?_
  rintro e w4 ⟨rfl, b4⟩
  go_wp2
  go_ret2
  exact ⟨rfl, b1.trans ((hB3.trans (b4.mono hB3.size)).mono b1.size)⟩

end Go.Proofs.Ytldnhflgpbcmeaa
