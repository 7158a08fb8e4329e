/-
  Contracts: texts of bits, of the reference.
  Conditions: lengths at most 2^47.
-/
import Derived.Test.YtkhaiajeiiocmaaDoorCB
namespace Go.Proofs.YtkhaiajeiiocmaaDoor
open Go.RowKit

/-- is a byte a bit's sign -/
def bitB (b : UInt8) : Bool := decide (b.toNat = 48) || decide (b.toNat = 49)
def bitsB (s : ByteArray) : Bool := s.data.toList.all bitB
theorem size_listb (s : ByteArray) : s.data.toList.length = s.size := by rw [Array.length_toList]; rfl
theorem bits_no {s : ByteArray} {k : Nat} (hk : k < s.size) (h : bitB s[k] = false) : bitsB s = false := by
  unfold bitsB
  rw [← Bool.not_eq_true, List.all_eq_true]
  intro hh
  have := hh (s.data.toList[k]'(by rw [size_listb]; exact hk)) (List.getElem_mem _)
  rw [show s.data.toList[k]'(by rw [size_listb]; exact hk) = s[k] from by simp [ByteArray.getElem_eq_getElem_data]] at this
  rw [h] at this
  cases this
theorem bits_yes {s : ByteArray} (h : ∀ k (hk : k < s.size), bitB s[k] = true) : bitsB s = true := by
  unfold bitsB
  rw [List.all_eq_true]
  intro x hx
  obtain ⟨k, hk, rfl⟩ := List.mem_iff_getElem.1 hx
  rw [size_listb] at hk
  rw [show s.data.toList[k]'(by rw [size_listb]; exact hk) = s[k] from by simp [ByteArray.getElem_eq_getElem_data]]
  exact h k hk
def textB (s : ByteArray) : Bool := decide (s.size ≤ 512) && bitsB s


set_option maxRecDepth 100000 in
set_option maxHeartbeats 1000000 in
theorem spec_l04Text_c (w : World) (s : ByteArray) (hs : s.size ≤ 140737488355328) : Calls Tryd.prog 42 #[.string s] w fun e w' => e = .returned (.bool (textB s)) ∧ w = w' := by
  by_cases hb : s.size ≤ 512
  · have e1 : textB s = bitsB s := by unfold textB; rw [decide_eq_true hb]; rfl
    rw [e1]
    clear e1
    go_enter Tryd.func42, Tryd.ntmps42
    go_wp2
    go_loop [3] (fun i => ∃ k : Nat, k ≤ s.size ∧ i = .int .i64 k ∧ (∀ j (hj : j < s.size), j < k → bitB s[j] = true)) (fun i => s.size - (intOf i).toNat)
    case atStart => exact ⟨0, Nat.zero_le _, rfl, fun j _ hj => by omega⟩
    case round =>
      obtain ⟨k, hk, rfl, hp⟩ := hrel
      have HP := Lib.hid hp
      clear hp
      by_cases hlt : k < s.size
      · by_cases h1 : s[k].toNat = 48
        · go_wp2
          go_round
          case rel =>
            refine ⟨k + 1, by omega, by go_num, ?_⟩
            intro j hj hjk
            by_cases hjk2 : j = k
            · subst hjk2
              unfold bitB
              rw [decide_eq_true h1]
              rfl
            · exact HP.out j hj (by omega)
          case measure => simp [intOf]; omega
        · by_cases h2 : s[k].toNat = 49
          · have q1 : ((s[k].toNat : Int) != 48) = true := by simp; omega
            have q2 : ((s[k].toNat : Int) != 49) = false := by simp; omega
            have q3 : ((s[k].toNat : Int) == 48) = false := by simp; omega
            have q4 : ((s[k].toNat : Int) == 49) = true := by simp; omega
            go_wp2
            go_round
            case rel =>
              refine ⟨k + 1, by omega, by go_num, ?_⟩
              intro j hj hjk
              by_cases hjk2 : j = k
              · subst hjk2
                unfold bitB
                rw [decide_eq_true h2, Bool.or_true]
              · exact HP.out j hj (by omega)
            case measure => simp [intOf]; omega
          · have q1 : ((s[k].toNat : Int) != 48) = true := by simp; omega
            have q2 : ((s[k].toNat : Int) != 49) = true := by simp; omega
            have q3 : ((s[k].toNat : Int) == 48) = false := by simp; omega
            have q4 : ((s[k].toNat : Int) == 49) = false := by simp; omega
            go_wp2
            go_ret
            exact ⟨ret_bool (bits_no hlt (by unfold bitB; rw [decide_eq_false h1, decide_eq_false h2]; rfl)).symm, rfl⟩
      · have : k = s.size := by omega
        subst this
        have hy := bits_yes (fun k hk => HP.out k hk hk)
        have HY := Lib.hid hy
        clear hy
        go_wp2
        go_ret
        exact ⟨ret_bool (by rw [HY.out]; simp; omega), rfl⟩
  · have e1 : textB s = false := by unfold textB; rw [decide_eq_false hb]; rfl
    rw [e1]
    go_enter Tryd.func42, Tryd.ntmps42
    go_wp2
    go_loop [3] (fun i => i = .int .i64 0) (fun _ => 0)
    case atStart => rfl
    case round =>
      obtain rfl := hrel
      go_wp2
      go_ret
      exact ⟨ret_bool (by simp; omega), rfl⟩


theorem spec_l08Bits_c (w : World) (s : ByteArray) (hs : s.size ≤ 140737488355328) : Calls Tryd.prog 27 #[.string s] w fun e w' => e = .returned (.bool (decide (s.size ≤ 64) && textB s)) ∧ w = w' := by
  by_cases hb : s.size ≤ 64
  · rw [decide_eq_true hb, Bool.true_and]
    obtain ⟨q, hq⟩ : ∃ q, textB s = q := ⟨_, rfl⟩
    rw [hq]
    have HQ := Lib.hid hq
    clear hq
    go_enter Tryd.func27, Tryd.ntmps27
    go_wp2_with (go_at_call 42; refine (spec_l04Text_c _ s hs).mono ?_; rintro e w' ⟨rfl, rfl⟩; rw [HQ.out])
    go_ret
    exact ⟨rfl, rfl⟩
  · rw [decide_eq_false hb, Bool.false_and]
    go_enter Tryd.func27, Tryd.ntmps27
    go_wp2
    go_ret
    exact ⟨rfl, rfl⟩

end Go.Proofs.YtkhaiajeiiocmaaDoor
