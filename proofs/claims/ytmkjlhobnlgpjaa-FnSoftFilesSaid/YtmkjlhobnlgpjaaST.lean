/-
  Plain and contracts: the bytes of what is saved; check numbers.
  Conditions: lengths at most 1048576.
-/
import Derived.Test.YtmkjlhobnlgpjaaVS
import Derived.Test.YtmkjlhobnlgpjaaDS
import Derived.Test.YtmkjlhobnlgpjaaCK
import Derived.Laws.BytesArg
import Derived.Lib.ConvBytes
namespace Go.Proofs.Ytmkjlhobnlgpjaa
open Go.RowKit

theorem infoUint8 : (Try.prog.info? 5).map (fun i => (i.zero, i.size, i.bytes)) = some (some (.int .u8 0), 1, 1) := by kernel_rfl

/-! ### packed bits -/
def bI (b : Bool) : Int := if b then 1 else 0
theorem bI_bd (b : Bool) : 0 ≤ bI b ∧ bI b ≤ 1 := by cases b <;> decide
/-- the bits of a byte, the greatest digit first -/
def pkH (bs : List Bool) (i : Nat) : Nat → Int
  | 0 => 0
  | t + 1 => 2 * pkH bs i t + bI (bs.getD (i + (7 - t)) false)
/-- the bits of a byte, the least digit first -/
def pkL (bs : List Bool) (i : Nat) : Nat → Int
  | 0 => 0
  | k + 1 => pkL bs i k + bI (bs.getD (i + k) false) * 2 ^ k
theorem pkH_bd (bs : List Bool) (i t : Nat) : 0 ≤ pkH bs i t ∧ pkH bs i t < 2 ^ t := by
  induction t with
  | zero => exact ⟨Int.le_refl _, by simp [pkH]⟩
  | succ t ih =>
    have := bI_bd (bs.getD (i + (7 - t)) false)
    rw [pkH, Int.pow_succ]
    omega
theorem pkL_bd (bs : List Bool) (i k : Nat) : 0 ≤ pkL bs i k ∧ pkL bs i k < 2 ^ k := by
  induction k with
  | zero => exact ⟨Int.le_refl _, by simp [pkL]⟩
  | succ k ih =>
    have hp : (0 : Int) < 2 ^ k := Int.pow_pos (by decide)
    rw [pkL, Int.pow_succ]
    cases bs.getD (i + k) false
    · simp [bI]; omega
    · simp [bI]; omega
theorem pk_same (bs : List Bool) (i : Nat) : pkH bs i 8 = pkL bs i 8 := by
  simp only [pkH, pkL]
  simp only [Nat.sub_zero, Nat.reduceSub]
  omega
theorem or_add : ∀ k < 8, ∀ x < 2 ^ k, bits .or .u8 ((x : Nat) : Int) ((2 ^ k : Nat) : Int) = ((x + 2 ^ k : Nat) : Int) := by decide +kernel
theorem pkL_or {bs : List Bool} {i k : Nat} (hk : k < 8) (h : bs.getD (i + k) false = true) : bits .or .u8 (pkL bs i k) (2 ^ k) = pkL bs i (k + 1) := by
  have hb := pkL_bd bs i k
  obtain ⟨x, hx⟩ : ∃ x : Nat, pkL bs i k = x := ⟨(pkL bs i k).toNat, by omega⟩
  have hx2 : x < 2 ^ k := by
    have h1 := hb.2
    rw [hx] at h1
    exact_mod_cast h1
  have h2 := or_add k hk x hx2
  rw [pkL, h, hx]
  simp only [bI, if_true]
  have e1 : ((2 ^ k : Nat) : Int) = 2 ^ k := by simp
  rw [e1] at h2
  rw [h2]
  simp
theorem pkL_no {bs : List Bool} {i k : Nat} (h : bs.getD (i + k) false = false) : pkL bs i (k + 1) = pkL bs i k := by
  rw [pkL, h]
  simp [bI]
/-- beyond the last bit nothing is added -/
theorem pkL_end {bs : List Bool} {i k : Nat} (h : bs.length ≤ i + k) : ∀ d, pkL bs i (k + d) = pkL bs i k
  | 0 => rfl
  | d + 1 => by
    rw [← Nat.add_assoc, pkL_no (by rw [List.getD_eq_getElem?_getD, List.getElem?_eq_none (by omega)]; rfl)]
    exact pkL_end h d
def pkBytes (bs : List Bool) (n : Nat) : List Int := (List.range n).map fun k => pkL bs (8 * k) 8
theorem pkBytes_succ (bs : List Bool) (n : Nat) : pkBytes bs (n + 1) = pkBytes bs n ++ [pkL bs (8 * n) 8] := by simp [pkBytes, List.range_succ]
theorem pkBytes_len (bs : List Bool) (n : Nat) : (pkBytes bs n).length = n := by simp [pkBytes]

/-! ### the bytes -/
def nameL (s : ByteArray) : List Int := s.data.toList.map fun b => (b.toNat : Int)
theorem nameL_len (s : ByteArray) : (nameL s).length = s.size := by simp [nameL]
def four (x : Nat) : List Int := [(canB x : Int) % 256, (canB x : Int) / 256 % 256, (canB x : Int) / 65536 % 256, (canB x : Int) / 16777216]
def fours (xs : List Nat) (k : Nat) : List Int := (xs.take k).flatMap four
theorem fours_succ {xs : List Nat} {k : Nat} (hk : k < xs.length) : fours xs (k + 1) = fours xs k ++ four xs[k] := by
  unfold fours
  rw [List.take_succ_eq_append_getElem hk, List.flatMap_append]
  simp
theorem fours_len {xs : List Nat} {k : Nat} (hk : k ≤ xs.length) : (fours xs k).length = 4 * k := by
  induction k with
  | zero => simp [fours]
  | succ k ih =>
    rw [fours_succ (by omega), List.length_append, ih (by omega)]
    simp [four]
    omega
def hd1 (s : ByteArray) : List Int := [83, 70, 84, 49] ++ [(s.size : Int)] ++ nameL s
def hd2 (s : ByteArray) (bs : List Bool) : List Int := hd1 s ++ [(bs.length : Int)]
def hd3 (s : ByteArray) (bs : List Bool) (xs : List Nat) : List Int := hd2 s bs ++ pkBytes bs (chN 8 bs.length) ++ [(xs.length : Int)]
def headL (s : ByteArray) (bs : List Bool) (xs : List Nat) : List Int := hd3 s bs xs ++ fours xs xs.length
/-- the check number of a text -/
def chkK (s : ByteArray) (k : Nat) : Int := (s.data.toList.take k).foldl (fun a b => (929 * a + (b.toNat : Int) + 193) % 65003) 0
def chkS (s : ByteArray) : Int := chkK s s.size
theorem chkK_bd (s : ByteArray) (k : Nat) : 0 ≤ chkK s k ∧ chkK s k < 65003 := by
  unfold chkK
  rw [← List.foldr_reverse]
  cases (s.data.toList.take k).reverse with
  | nil => simp
  | cons b l => rw [List.foldr_cons]; omega
theorem chkK_succ {s : ByteArray} {k : Nat} (hk : k < s.size) : chkK s (k + 1) = (929 * chkK s k + (s[k].toNat : Int) + 193) % 65003 := by
  unfold chkK
  have hk2 : k < s.data.toList.length := by rw [Array.length_toList]; exact hk
  rw [List.take_succ_eq_append_getElem hk2, List.foldl_append]
  rfl
def storeN (s : ByteArray) (bs : List Bool) (xs : List Nat) : List Int := headL s bs xs ++ [chkS (strOfNums (headL s bs xs)) % 256, chkS (strOfNums (headL s bs xs)) / 256]
def storeS (s : ByteArray) (bs : List Bool) (xs : List Nat) : ByteArray := strOfNums (storeN s bs xs)


set_option maxRecDepth 100000 in
theorem spec_l01Check_c (w : World) (s : ByteArray) (hs : s.size ≤ 9223372036854775807) : Calls Try.prog 68 #[.int .i64 0, .string s] w fun e w' => e = .returned (.int .i64 (chkS s)) ∧ w = w' := by
  go_enter Try.func68, Try.ntmps68
  go_wp2
  go_loop [0, 5] (fun x i => ∃ k : Nat, k ≤ s.size ∧ i = .int .i64 (k : Int) ∧ x = .int .i64 (chkK s k)) (fun _ i => s.size - (intOf i).toNat)
  case atStart => exact ⟨0, Nat.zero_le _, rfl, rfl⟩
  case round =>
    obtain ⟨k, hk, rfl, rfl⟩ := hrel
    obtain ⟨hb0, hb1⟩ := chkK_bd s k
    by_cases hlt : k < s.size
    · have hn := chkK_succ hlt
      have hc : s[k].toNat < 256 := UInt8.toNat_lt _
      have HN := Lib.hid hn
      clear hn
      go_wp2
      go_round
      case rel => exact ⟨k + 1, by omega, by go_num, by rw [HN.out]⟩
      case measure => simp [intOf]; omega
    · have : k = s.size := by omega
      subst this
      go_wp2
      go_ret
      exact ⟨rfl, rfl⟩
set_option maxRecDepth 100000 in
theorem impl_CheckOf_c (w : World) (s : ByteArray) (hs : s.size ≤ 9223372036854775807) : Calls Try.prog 47 #[.int .i64 0, .string s] w fun e w' => e = .returned (.tuple #[.int .i64 (chkS s), .bool true]) ∧ w = w' := by
  have hi : inB 0 0 65002 = true := by decide
  have HI := Lib.hid hi
  clear hi
  go_enter Try.func47, Try.ntmps47
  go_wp2_with (go_at_call 71; refine (impl_within_c _ _ _ _).mono ?_; rintro e w' ⟨rfl, rfl⟩; rw [HI.out])
  go_loop [0, 12] (fun x i => ∃ k : Nat, k ≤ s.size ∧ i = .int .i64 (k : Int) ∧ x = .int .i64 (chkK s k)) (fun _ i => s.size - (intOf i).toNat)
  case atStart => exact ⟨0, Nat.zero_le _, rfl, rfl⟩
  case round =>
    obtain ⟨k, hk, rfl, rfl⟩ := hrel
    obtain ⟨hb0, hb1⟩ := chkK_bd s k
    by_cases hlt : k < s.size
    · have hn := chkK_succ hlt
      have hc : s[k].toNat < 256 := UInt8.toNat_lt _
      have HN := Lib.hid hn
      clear hn
      go_wp2
      go_round
      case rel => exact ⟨k + 1, by omega, by go_num, by rw [HN.out]⟩
      case measure => simp [intOf]; omega
    · have : k = s.size := by omega
      subst this
      go_wp2
      go_ret2
      exact ⟨rfl, rfl⟩

end Go.Proofs.Ytmkjlhobnlgpjaa
