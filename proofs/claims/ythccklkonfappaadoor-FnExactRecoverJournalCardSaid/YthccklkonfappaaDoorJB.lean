/-
  Contracts: the sums that check a journal, of both.
  Conditions: sums from 0 to 65002, texts of at most 1048576 bytes.
-/
import Derived.Test.YthccklkonfappaaDoorJA
import Derived.Test.YthccklkonfappaaDoorCB
namespace Go.Proofs.YthccklkonfappaaDoor
open Go.RowKit

/-- the sum behind some bytes -/
def chkL (c : Nat) (l : List UInt8) : Nat := l.foldl (fun c b => (929 * c + b.toNat + 193) % 65003) c
def chkS (c : Nat) (s : ByteArray) : Nat := chkL c s.data.toList
theorem chkL_lt : ∀ (l : List UInt8) {c : Nat}, c ≤ 65002 → chkL c l ≤ 65002
  | [], _, h => h
  | b :: l, c, _ => chkL_lt l (c := (929 * c + b.toNat + 193) % 65003) (by omega)
theorem chkS_lt (s : ByteArray) {c : Nat} (h : c ≤ 65002) : chkS c s ≤ 65002 := chkL_lt _ h
theorem size_list' (s : ByteArray) : s.data.toList.length = s.size := by rw [Array.length_toList]; rfl
theorem chkL_take (c : Nat) (s : ByteArray) {k : Nat} (hk : k < s.size) : chkL c (s.data.toList.take (k + 1)) = (929 * chkL c (s.data.toList.take k) + s[k].toNat + 193) % 65003 := by
  rw [List.take_succ_eq_append_getElem (by rw [size_list']; exact hk)]
  unfold chkL
  rw [List.foldl_append]
  rfl


set_option maxRecDepth 100000 in
theorem impl_CheckOf_c (w : World) (c : Nat) (s : ByteArray) (hc : c ≤ 65002) (hs : s.size ≤ 1048576) : Calls Tryd.prog 40 #[.int .i64 (c : Int), .string s] w fun e w' => e = .returned (.tuple #[.int .i64 (chkS c s : Nat), .bool true]) ∧ w = w' := by
  have hi : inB (c : Int) 0 65002 = true := inB_true.2 (by omega)
  have hw := impl_within_c w (c : Int) 0 65002
  rw [hi] at hw
  have HW := Lib.hid hw
  clear hw hi
  go_enter Tryd.func40, Tryd.ntmps40
  go_wp2_with fail
  refine HW.out.mono ?_
  rintro e w' ⟨rfl, rfl⟩
  go_wp2
  go_loop [0, 12] (fun q i => ∃ k d : Nat, k ≤ s.size ∧ i = .int .i64 k ∧ q = .int .i64 d ∧ d ≤ 65002 ∧ Hid (d = chkL c (s.data.toList.take k))) (fun _ i => s.size - (intOf i).toNat)
  case atStart => exact ⟨0, c, Nat.zero_le _, rfl, rfl, hc, Lib.hid rfl⟩
  case round =>
    obtain ⟨k, d, hk, rfl, rfl, hd, HD⟩ := hrel
    by_cases hlt : k < s.size
    · have h8 := s[k].toNat_lt
      have hst := chkL_take c s hlt
      rw [← HD.out] at hst
      have HS := Lib.hid hst
      have hd2 : (929 * d + s[k].toNat + 193) % 65003 ≤ 65002 := by omega
      clear hst HD
      go_wp2
      go_round
      case rel => exact ⟨k + 1, (929 * d + s[k].toNat + 193) % 65003, by omega, by go_num, by go_num, hd2, Lib.hid HS.out.symm⟩
      case measure => simp [intOf]; omega
    · obtain rfl : k = s.size := by omega
      have hst := HD.out
      rw [List.take_of_length_le (by rw [size_list']; exact Nat.le_refl _)] at hst
      have HS := Lib.hid hst
      clear hst HD
      go_wp2
      go_ret2
      exact ⟨by rw [HS.out]; rfl, rfl⟩


set_option maxRecDepth 100000 in
theorem spec_l01Check_c (w : World) (c : Nat) (s : ByteArray) (hc : c ≤ 65002) (hs : s.size ≤ 1048576) : Calls Tryd.prog 59 #[.int .i64 (c : Int), .string s] w fun e w' => e = .returned (.int .i64 (chkS c s : Nat)) ∧ w = w' := by
  go_enter Tryd.func59, Tryd.ntmps59
  go_wp2
  go_loop [0, 5] (fun q i => ∃ k d : Nat, k ≤ s.size ∧ i = .int .i64 k ∧ q = .int .i64 d ∧ d ≤ 65002 ∧ Hid (d = chkL c (s.data.toList.take k))) (fun _ i => s.size - (intOf i).toNat)
  case atStart => exact ⟨0, c, Nat.zero_le _, rfl, rfl, hc, Lib.hid rfl⟩
  case round =>
    obtain ⟨k, d, hk, rfl, rfl, hd, HD⟩ := hrel
    by_cases hlt : k < s.size
    · have h8 := s[k].toNat_lt
      have hst := chkL_take c s hlt
      rw [← HD.out] at hst
      have HS := Lib.hid hst
      have hd2 : (929 * d + s[k].toNat + 193) % 65003 ≤ 65002 := by omega
      clear hst HD
      go_wp2
      go_round
      case rel => exact ⟨k + 1, (929 * d + s[k].toNat + 193) % 65003, by omega, by go_num, by go_num, hd2, Lib.hid HS.out.symm⟩
      case measure => simp [intOf]; omega
    · obtain rfl : k = s.size := by omega
      have hst := HD.out
      rw [List.take_of_length_le (by rw [size_list']; exact Nat.le_refl _)] at hst
      have HS := Lib.hid hst
      clear hst HD
      go_wp2
      go_ret
      exact ⟨by rw [HS.out]; rfl, rfl⟩

end Go.Proofs.YthccklkonfappaaDoor
