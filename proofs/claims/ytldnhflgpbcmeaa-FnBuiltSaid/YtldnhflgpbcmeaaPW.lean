/-
  Contracts: weights of words; words of messages.
  Conditions: words of at most 16 digits, at most 8 rows.
-/
import Derived.Test.YtldnhflgpbcmeaaPV
import Derived.Laws.Bits64b
namespace Go.Proofs.Ytldnhflgpbcmeaa
open Go.RowKit

/-! ### what math/bits reckons -/
def allB (f : Nat → Bool) : Nat → Bool
  | 0 => true
  | n + 1 => f n && allB f n
theorem allB_spec {f : Nat → Bool} {n : Nat} (h : allB f n = true) {k : Nat} (hk : k < n) : f k = true := by
  induction n with
  | zero => omega
  | succ n ih =>
    rw [allB, Bool.and_eq_true] at h
    by_cases e : k = n
    · rw [e]; exact h.1
    · exact ih h.2 (by omega)
def ones1 (x : Nat) : Nat := Nat.add (Nat.land (Nat.div x 2) 6148914691236517205) (Nat.land x 6148914691236517205)
def ones2 (a : Nat) : Nat := Nat.add (Nat.land (Nat.div a 4) 3689348814741910323) (Nat.land a 3689348814741910323)
def ones3 (b : Nat) : Nat := Nat.land (Nat.add (Nat.div b 16) b) 1085102592571150095
def ones4 (k c : Nat) : Nat := Nat.add c (Nat.div c k)
def onesA (n : Nat) : Nat := Nat.land (ones4 4294967296 (ones4 65536 (ones4 256 (ones3 (ones2 (ones1 n)))))) 127
theorem ones_all : allB (fun a => allB (fun b => Nat.beq (onesA (Nat.add (Nat.mul 256 a) b)) (pcF 16 (Nat.add (Nat.mul 256 a) b))) 256) 256 = true := by kernel_rfl
theorem ones_is {n : Nat} (h : n < 65536) : onesA n = pcF 16 n := by
  have h1 := allB_spec (allB_spec ones_all (k := n / 256) (by omega)) (k := n % 256) (by omega)
  have e : Nat.add (Nat.mul 256 (n / 256)) (n % 256) = n := Nat.div_add_mod n 256
  rw [e] at h1
  exact Nat.eq_of_beq_eq_true h1
theorem land_le (a m : Nat) : Nat.land a m ≤ a := Nat.and_le_left
def iS1 (x : Int) : Int := IntKind.u64.wrap (bits .and .u64 (x / 2) 6148914691236517205 + bits .and .u64 x 6148914691236517205)
def iS2 (a : Int) : Int := IntKind.u64.wrap (bits .and .u64 (a / 4) 3689348814741910323 + bits .and .u64 a 3689348814741910323)
def iS3 (b : Int) : Int := bits .and .u64 (IntKind.u64.wrap (b / 16 + b)) 1085102592571150095
def iS4 (c k : Int) : Int := IntKind.u64.wrap (c + c / k)
theorem iS1_is {n : Nat} (h : n < 65536) : iS1 n = (ones1 n : Int) ∧ ones1 n < 131072 := by
  have h1 := land_le (Nat.div n 2) 6148914691236517205
  have h2 := land_le n 6148914691236517205
  have h3 : Nat.div n 2 ≤ n := Nat.div_le_self n 2
  have e0 : ((n : Int) / 2) = ((Nat.div n 2 : Nat) : Int) := rfl
  have e1 : bits .and .u64 ((Nat.div n 2 : Nat) : Int) ((6148914691236517205 : Nat) : Int) = ((Nat.land (Nat.div n 2) 6148914691236517205 : Nat) : Int) := bits_and_u64_nat _ _ (by omega) (by omega)
  have e2 : bits .and .u64 (n : Int) ((6148914691236517205 : Nat) : Int) = ((Nat.land n 6148914691236517205 : Nat) : Int) := bits_and_u64_nat _ _ (by omega) (by omega)
  have e3 : ones1 n = Nat.land (Nat.div n 2) 6148914691236517205 + Nat.land n 6148914691236517205 := rfl
  refine ⟨?_, by omega⟩
  unfold iS1
  rw [e0]
  erw [e1, e2]
  rw [IntWalk.u64_in _ (by omega), e3]
  omega
theorem iS2_is {n : Nat} (h : n < 131072) : iS2 n = (ones2 n : Int) ∧ ones2 n < 262144 := by
  have h1 := land_le (Nat.div n 4) 3689348814741910323
  have h2 := land_le n 3689348814741910323
  have h3 : Nat.div n 4 ≤ n := Nat.div_le_self n 4
  have e0 : ((n : Int) / 4) = ((Nat.div n 4 : Nat) : Int) := rfl
  have e1 : bits .and .u64 ((Nat.div n 4 : Nat) : Int) ((3689348814741910323 : Nat) : Int) = ((Nat.land (Nat.div n 4) 3689348814741910323 : Nat) : Int) := bits_and_u64_nat _ _ (by omega) (by omega)
  have e2 : bits .and .u64 (n : Int) ((3689348814741910323 : Nat) : Int) = ((Nat.land n 3689348814741910323 : Nat) : Int) := bits_and_u64_nat _ _ (by omega) (by omega)
  have e3 : ones2 n = Nat.land (Nat.div n 4) 3689348814741910323 + Nat.land n 3689348814741910323 := rfl
  refine ⟨?_, by omega⟩
  unfold iS2
  rw [e0]
  erw [e1, e2]
  rw [IntWalk.u64_in _ (by omega), e3]
  omega
theorem iS3_is {n : Nat} (h : n < 262144) : iS3 n = (ones3 n : Int) ∧ ones3 n < 524288 := by
  have h3 : Nat.div n 16 ≤ n := Nat.div_le_self n 16
  have h1 := land_le (Nat.div n 16 + n) 1085102592571150095
  have e0 : ((n : Int) / 16) = ((Nat.div n 16 : Nat) : Int) := rfl
  have e1 : bits .and .u64 ((Nat.div n 16 + n : Nat) : Int) ((1085102592571150095 : Nat) : Int) = ((Nat.land (Nat.div n 16 + n) 1085102592571150095 : Nat) : Int) := bits_and_u64_nat _ _ (by omega) (by omega)
  have e3 : ones3 n = Nat.land (Nat.div n 16 + n) 1085102592571150095 := rfl
  refine ⟨?_, by omega⟩
  unfold iS3
  rw [e0, ← Int.natCast_add, IntWalk.u64_in _ (by omega)]
  erw [e1]
  rw [e3]
theorem iS4_is {n k : Nat} (h : n < 1099511627776) : iS4 n k = (ones4 k n : Int) ∧ ones4 k n ≤ 2 * n := by
  obtain ⟨q, hq⟩ : ∃ q, n / k = q := ⟨_, rfl⟩
  have h3 : n / k ≤ n := Nat.div_le_self n k
  have e0 : ((n : Int) / (k : Int)) = ((n / k : Nat) : Int) := rfl
  have e3 : ones4 k n = n + n / k := rfl
  rw [hq] at h3 e0 e3
  refine ⟨?_, by omega⟩
  unfold iS4
  rw [e0, ← Int.natCast_add, IntWalk.u64_in _ (by omega), e3]
theorem and127 {n : Nat} (h : n < 1099511627776) : bits .and .i64 (n : Int) 127 = ((Nat.land n 127 : Nat) : Int) := by
  have e1 : BitVec.ofInt 64 (n : Int) = BitVec.ofNat 64 n := BitVec.ofInt_natCast 64 n
  have e2 : BitVec.ofInt 64 (127 : Int) = BitVec.ofNat 64 127 := BitVec.ofInt_natCast 64 127
  have e3 : bits .and .i64 (n : Int) 127 = IntKind.i64.wrap ((BitVec.ofInt 64 (n : Int) &&& BitVec.ofInt 64 (127 : Int)).toNat : Int) := rfl
  have h1 := land_le n 127
  have h2 : (BitVec.ofNat 64 n &&& BitVec.ofNat 64 127).toNat = Nat.land n 127 := by
    rw [BitVec.toNat_and, BitVec.toNat_ofNat, BitVec.toNat_ofNat, Nat.mod_eq_of_lt (by omega), Nat.mod_eq_of_lt (by omega)]
    rfl
  rw [e3, e1, e2, h2, IntWalk.i64_in _ (by omega)]


set_option maxRecDepth 100000 in
set_option maxHeartbeats 1000000 in
theorem OnesCount64_w (w : World) (x : Int) (h0 : 0 ≤ x) (h1 : x < 65536) : Calls Try.prog 50 #[.int .u64 x] w fun e w' => e = .returned (.int .i64 (wt x)) ∧ w = w' := by
  have key : bits .and .i64 (wrap64 (iS4 (iS4 (iS4 (iS3 (iS2 (iS1 x))) 256) 65536) 4294967296)) 127 = wt x := by
    obtain ⟨n, rfl⟩ : ∃ n : Nat, x = n := ⟨x.toNat, by omega⟩
    have hn : n < 65536 := by omega
    obtain ⟨a1, a2⟩ := iS1_is hn
    obtain ⟨b1, b2⟩ := iS2_is a2
    obtain ⟨c1, c2⟩ := iS3_is b2
    obtain ⟨d1, d2⟩ := iS4_is (n := ones3 (ones2 (ones1 n))) (k := 256) (by omega)
    obtain ⟨e1, e2⟩ := iS4_is (n := ones4 256 (ones3 (ones2 (ones1 n)))) (k := 65536) (by omega)
    obtain ⟨f1, f2⟩ := iS4_is (n := ones4 65536 (ones4 256 (ones3 (ones2 (ones1 n))))) (k := 4294967296) (by omega)
    have hz := ones_is hn
    have g1 := and127 (n := ones4 4294967296 (ones4 65536 (ones4 256 (ones3 (ones2 (ones1 n)))))) (by omega)
    have hw : wrap64 ((ones4 4294967296 (ones4 65536 (ones4 256 (ones3 (ones2 (ones1 n))))) : Nat) : Int) = _ := IntWalk.wrap64_in _ (by omega)
    have hd1 : iS4 ((ones3 (ones2 (ones1 n)) : Nat) : Int) 256 = _ := d1
    have he1 : iS4 ((ones4 256 (ones3 (ones2 (ones1 n))) : Nat) : Int) 65536 = _ := e1
    have hf1 : iS4 ((ones4 65536 (ones4 256 (ones3 (ones2 (ones1 n)))) : Nat) : Int) 4294967296 = _ := f1
    rw [a1, b1, c1, hd1, he1, hf1, hw, g1]
    unfold wt
    rw [Int.toNat_natCast, ← hz]
    rfl
  go_enter Try.func50, Try.ntmps50
  go_wp2
  go_ret
  exact ⟨ret_int key, rfl⟩

end Go.Proofs.Ytldnhflgpbcmeaa
