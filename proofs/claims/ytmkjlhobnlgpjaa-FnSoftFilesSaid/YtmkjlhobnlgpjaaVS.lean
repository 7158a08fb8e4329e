/-
  Contracts: which saved ones are such.
  Conditions: lengths at most 1048576.
-/
import Derived.Test.YtmkjlhobnlgpjaaSS
import Derived.Test.YtmkjlhobnlgpjaaCA
namespace Go.Proofs.Ytmkjlhobnlgpjaa
open Go.RowKit

def lowB (b : UInt8) : Bool := decide (97 ≤ b.toNat) && decide (b.toNat ≤ 122)
def nameB (s : ByteArray) : Bool := s.data.toList.all lowB && (decide (1 ≤ s.size) && decide (s.size ≤ 8))
theorem size_list (s : ByteArray) : s.data.toList.length = s.size := by rw [Array.length_toList]; rfl
theorem name_no {s : ByteArray} {k : Nat} (hk : k < s.size) (h : lowB s[k] = false) : nameB s = false := by
  unfold nameB
  have h1 : s.data.toList.all lowB = false := by
    rw [← Bool.not_eq_true, List.all_eq_true]
    intro hh
    have := hh (s.data.toList[k]'(by rw [size_list]; exact hk)) (List.getElem_mem _)
    rw [show s.data.toList[k]'(by rw [size_list]; exact hk) = s[k] from by simp [ByteArray.getElem_eq_getElem_data]] at this
    rw [h] at this
    cases this
  rw [h1]
  rfl
theorem name_yes {s : ByteArray} (h : ∀ k (hk : k < s.size), lowB s[k] = true) : nameB s = (decide (1 ≤ s.size) && decide (s.size ≤ 8)) := by
  unfold nameB
  have h1 : s.data.toList.all lowB = true := by
    rw [List.all_eq_true]
    intro x hx
    obtain ⟨k, hk, rfl⟩ := List.mem_iff_getElem.1 hx
    rw [size_list] at hk
    rw [show s.data.toList[k]'(by rw [size_list]; exact hk) = s[k] from by simp [ByteArray.getElem_eq_getElem_data]]
    exact h k hk
  rw [h1]
  rfl


set_option maxRecDepth 100000 in
theorem impl_IsName_c (w : World) (s : ByteArray) (hs : s.size ≤ 1048576) : Calls Try.prog 61 #[.string s] w fun e w' => e = .returned (.bool (nameB s)) ∧ w = w' := by
  go_enter Try.func61, Try.ntmps61
  go_wp2
  go_loop [6] (fun i => ∃ k : Nat, k ≤ s.size ∧ i = .int .i64 k ∧ (∀ j (hj : j < s.size), j < k → lowB s[j] = true)) (fun i => s.size - (intOf i).toNat)
  case atStart => exact ⟨0, Nat.zero_le _, rfl, fun j _ hj => by omega⟩
  case round =>
    obtain ⟨k, hk, rfl, hp⟩ := hrel
    have HP := Lib.hid hp
    clear hp
    by_cases hlt : k < s.size
    · by_cases h1 : s[k].toNat < 97
      · go_wp2
        go_ret
        exact ⟨ret_bool (name_no hlt (by unfold lowB; rw [decide_eq_false (by omega)]; rfl)).symm, rfl⟩
      · by_cases h2 : 122 < s[k].toNat
        · go_wp2
          go_ret
          exact ⟨ret_bool (name_no hlt (by unfold lowB; rw [decide_eq_false (show ¬ s[k].toNat ≤ 122 by omega), Bool.and_false])).symm, rfl⟩
        · go_wp2
          go_round
          case rel =>
            refine ⟨k + 1, by omega, by go_num, ?_⟩
            intro j hj hjk
            by_cases hjk2 : j = k
            · subst hjk2
              unfold lowB
              rw [decide_eq_true (by omega), decide_eq_true (by omega)]
              rfl
            · exact HP.out j hj (by omega)
          case measure => simp [intOf]; omega
    · have : k = s.size := by omega
      subst this
      have hy := name_yes (fun k hk => HP.out k hk hk)
      have HY := Lib.hid hy
      clear hy
      by_cases g1 : 1 ≤ s.size
      · go_wp2
        go_ret
        exact ⟨ret_bool (by rw [HY.out, decide_eq_true g1, Bool.true_and, Bool.eq_iff_iff]; simp; omega), rfl⟩
      · go_wp2
        go_ret
        exact ⟨ret_bool (by rw [HY.out, decide_eq_false g1]; rfl), rfl⟩


set_option maxRecDepth 100000 in
theorem spec_l07Name_c (w : World) (s : ByteArray) (hs : s.size ≤ 1048576) : Calls Try.prog 65 #[.string s] w fun e w' => e = .returned (.bool (nameB s)) ∧ w = w' := by
  go_enter Try.func65, Try.ntmps65
  go_wp2
  go_loop [3] (fun i => ∃ k : Nat, k ≤ s.size ∧ i = .int .i64 k ∧ (∀ j (hj : j < s.size), j < k → lowB s[j] = true)) (fun i => s.size - (intOf i).toNat)
  case atStart => exact ⟨0, Nat.zero_le _, rfl, fun j _ hj => by omega⟩
  case round =>
    obtain ⟨k, hk, rfl, hp⟩ := hrel
    have HP := Lib.hid hp
    clear hp
    by_cases hlt : k < s.size
    · by_cases h1 : s[k].toNat < 97
      · go_wp2
        go_ret
        exact ⟨ret_bool (name_no hlt (by unfold lowB; rw [decide_eq_false (by omega)]; rfl)).symm, rfl⟩
      · by_cases h2 : 122 < s[k].toNat
        · go_wp2
          go_ret
          exact ⟨ret_bool (name_no hlt (by unfold lowB; rw [decide_eq_false (show ¬ s[k].toNat ≤ 122 by omega), Bool.and_false])).symm, rfl⟩
        · go_wp2
          go_round
          case rel =>
            refine ⟨k + 1, by omega, by go_num, ?_⟩
            intro j hj hjk
            by_cases hjk2 : j = k
            · subst hjk2
              unfold lowB
              rw [decide_eq_true (by omega), decide_eq_true (by omega)]
              rfl
            · exact HP.out j hj (by omega)
          case measure => simp [intOf]; omega
    · have : k = s.size := by omega
      subst this
      have hy := name_yes (fun k hk => HP.out k hk hk)
      have HY := Lib.hid hy
      clear hy
      by_cases g1 : 1 ≤ s.size
      · go_wp2
        go_ret
        exact ⟨ret_bool (by rw [HY.out, decide_eq_true g1, Bool.true_and, Bool.eq_iff_iff]; simp; omega), rfl⟩
      · go_wp2
        go_ret
        exact ⟨ret_bool (by rw [HY.out, decide_eq_false g1]; rfl), rfl⟩


def validSavedB (s : ByteArray) (bs : List Bool) (xs : List Nat) : Bool := (nameB s && decide (bs.length ≤ 160)) && softB xs
set_option maxRecDepth 100000 in
set_option maxHeartbeats 1000000 in
theorem impl_ValidSaved_c (w : World) (s : ByteArray) (hs : s.size ≤ 1048576) (A : Option Addr) (n cap : Nat) (bs : List Bool) (hl : bs.length = n) (_hn : n ≤ 1048576) (_hx : Sl w w.heap.size A (bs.map Value.bool))
    (A2 : Option Addr) (n2 cap2 : Nat) (xs : List Nat) (hl2 : xs.length = n2) (_hn2 : n2 ≤ 1048576) (hy : Sl w w.heap.size A2 (xs.map (Value.float .f32))) :
    Calls Try.prog 31 #[.agg #[.string s, .slice A n cap, .slice A2 n2 cap2]] w fun e w' => e = .returned (.bool (validSavedB s bs xs)) ∧ Below w.heap.size w w' := by
  have hB := (Below.refl w.heap.size w).alloc (Nat.le_refl _) (Obj.cells #[.string s, .slice A n cap, .slice A2 n2 cap2] 35)
  have hy1 := hy.alloc (Nat.le_refl _) (Obj.cells #[.string s, .slice A n cap, .slice A2 n2 cap2] 35)
  have HB := Lib.hid hB
  clear hB
  unfold validSavedB
  rw [hl]
  cases hn : nameB s
  · have HN := Lib.hid hn
    clear hn
    go_enter Try.func31, Try.ntmps31
    go_wp2_with (go_at_call 61; refine (impl_IsName_c _ s hs).mono ?_; rintro e w' ⟨rfl, rfl⟩; rw [HN.out])
    go_ret
    exact ⟨rfl, HB.out⟩
  · have HN := Lib.hid hn
    clear hn
    by_cases h1 : n ≤ 160
    · rw [decide_eq_true h1]
      have hd : decide ((n : Int) ≤ 160) = true := by simp; omega
      go_enter Try.func31, Try.ntmps31
      go_wp2_with (first
        | (go_at_call 61; refine (impl_IsName_c _ s hs).mono ?_; rintro e w' ⟨rfl, rfl⟩; rw [HN.out])
        | (go_at_call 62; refine (impl_IsSoft_c _ _ A2 n2 cap2 xs hl2 hy1).mono ?_; rintro e w' ⟨rfl, q, rfl⟩))
      go_ret
      exact ⟨ret_bool (by simp), below_drewN HB.out _⟩
    · rw [decide_eq_false h1]
      have hd : decide ((n : Int) ≤ 160) = false := by simp; omega
      go_enter Try.func31, Try.ntmps31
      go_wp2_with (go_at_call 61; refine (impl_IsName_c _ s hs).mono ?_; rintro e w' ⟨rfl, rfl⟩; rw [HN.out])
      go_ret
      exact ⟨rfl, HB.out⟩

set_option maxRecDepth 100000 in
set_option maxHeartbeats 1000000 in
theorem spec_l07Saved_c (w : World) (b o B : Nat) (s : ByteArray) (hs : s.size ≤ 1048576) (A : Option Addr) (n cap : Nat) (bs : List Bool) (hl : bs.length = n) (A2 : Option Addr) (n2 cap2 : Nat) (xs : List Nat) (hl2 : xs.length = n2) (hy : Sl w B A2 (xs.map (Value.float .f32)))
    (c0 : w.cell? ⟨b, o, none⟩ = some (.string s)) (c1 : w.cell? ⟨b, o + 1, none⟩ = some (.slice A n cap)) (c2 : w.cell? ⟨b, o + 2, none⟩ = some (.slice A2 n2 cap2)) :
    Calls Try.prog 41 #[.pointer (some ⟨b, o, none⟩)] w fun e w' => e = .returned (.bool (validSavedB s bs xs)) ∧ ∃ k, w' = w.drewN k := by
  unfold validSavedB
  rw [hl]
  cases hn : nameB s
  · have HN := Lib.hid hn
    clear hn
    go_enter Try.func41, Try.ntmps41
    go_wp2_with (go_at_call 65; refine (spec_l07Name_c _ s hs).mono ?_; rintro e w' ⟨rfl, rfl⟩; rw [HN.out])
    go_ret
    exact ⟨rfl, 0, rfl⟩
  · have HN := Lib.hid hn
    clear hn
    by_cases h1 : n ≤ 160
    · rw [decide_eq_true h1]
      have hd : decide ((n : Int) ≤ 160) = true := by simp; omega
      go_enter Try.func41, Try.ntmps41
      go_wp2_with (first
        | (go_at_call 65; refine (spec_l07Name_c _ s hs).mono ?_; rintro e w' ⟨rfl, rfl⟩; rw [HN.out])
        | (go_at_call 66; refine (spec_l07Soft_c _ _ A2 n2 cap2 xs hl2 hy).mono ?_; rintro e w' ⟨rfl, q, rfl⟩))
      go_ret
      exact ⟨ret_bool (by simp), _, rfl⟩
    · rw [decide_eq_false h1]
      have hd : decide ((n : Int) ≤ 160) = false := by simp; omega
      go_enter Try.func41, Try.ntmps41
      go_wp2_with (go_at_call 65; refine (spec_l07Name_c _ s hs).mono ?_; rintro e w' ⟨rfl, rfl⟩; rw [HN.out])
      go_ret
      exact ⟨rfl, 0, rfl⟩


end Go.Proofs.Ytmkjlhobnlgpjaa
