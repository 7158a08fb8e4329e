/-
  Contracts: texts of journals, of the reference.
  Conditions: at most 1048576 texts, of at most 1048576 bytes together.
-/
import Derived.Test.YthccklkonfappaaDoorJC
import Derived.Test.YthccklkonfappaaDoorSC
import Derived.OwnWalk
import Derived.Deep.RegionHeld3
namespace Go.Proofs.YthccklkonfappaaDoor
open Go.RowKit


set_option maxRecDepth 100000 in
set_option maxHeartbeats 1000000 in
theorem spec_l08Journal_c (w : World) (A : Option Addr) (n cap : Nat) (xs : List ByteArray) (hl : xs.length = n) (hn : totS xs + n ≤ 1048576) (hx : Sl w w.heap.size A (xs.map Value.string)) :
    Calls Tryd.prog 38 #[.slice A n cap] w fun e w' => e = .returned (.string (jourS 0 xs)) ∧ Below w.heap.size w w' := by
  go_enter Tryd.func38, Tryd.ntmps38
  go_wp2
  go_loopw [3, 4, 5] (fun v q i wr => ∃ k c : Nat, k ≤ n ∧ i = .int .i64 k ∧ q = .int .i64 c ∧ c ≤ 65002 ∧ Hid (c = sumS 0 (xs.take k)) ∧ v = .string (jourS 0 (xs.take k)) ∧ Below w.heap.size w wr) (fun _ _ i _ => n - (intOf i).toNat)
  case atStart => exact ⟨0, 0, Nat.zero_le _, rfl, rfl, by omega, Lib.hid rfl, rfl, Below.refl _ _⟩
  case round =>
    obtain ⟨k, c, hk, rfl, rfl, hc, HC, rfl, hb⟩ := hrel
    have hz := hb.size
    by_cases hlt : k < n
    · obtain ⟨b, off, rfl, hbb, hcx⟩ := (hx.below hb).get k (by omega)
      have hj := jour_step (xs := xs) (k := k) (by omega)
      have hs := sum_step (xs := xs) (k := k) (by omega)
      have hmem : xs[k]'(by omega) ∈ xs := List.getElem_mem _
      generalize xs[k]'(by omega) = x at hcx hj hs hmem
      have hxs := totS_mem hmem
      rw [← HC.out] at hj hs
      have hrec : recS c x = ((decS (chkS c x) ++ ⟨#[32]⟩) ++ x) ++ ⟨#[10]⟩ := rfl
      have hcl := chkS_lt x hc
      have hds := decS_size (chkS c x)
      have hjl := jour_le (xs.take k) 0 (by omega)
      rw [List.length_take, Nat.min_eq_left (by omega)] at hjl
      have htt := totS_take xs k
      have HCH := Lib.hid (spec_l01Check_c wr c x hc (by omega))
      have HD := Lib.hid (spec_l01Dec_c wr.drew (chkS c x) (by omega))
      generalize decS (chkS c x) = D at hrec hds HD
      generalize jourS 0 (xs.take k) = S at hj hjl ⊢
      have hDs : D.size ≤ 65003 := by omega
      have hXs : x.size ≤ 1048576 := by omega
      have hSs : S.size ≤ 1099511627776 := by omega
      have HJS := Lib.hid hj
      have HSS := Lib.hid hs
      have HREC := Lib.hid hrec
      have h1 : (D ++ ⟨#[32]⟩ : ByteArray).size = D.size + 1 := ByteArray.size_append
      have h2 : ((D ++ ⟨#[32]⟩) ++ x : ByteArray).size = D.size + 1 + x.size := by rw [ByteArray.size_append, h1]
      have h3 : (((D ++ ⟨#[32]⟩) ++ x) ++ ⟨#[10]⟩ : ByteArray).size = D.size + 1 + x.size + 1 := by rw [ByteArray.size_append, h2]; rfl
      have f1 : ¬ 9223372036854775807 ≤ D.size := by omega
      have f2 : ¬ 9223372036854775807 < D.size + 1 + x.size := by omega
      have f3 : ¬ 9223372036854775807 ≤ D.size + 1 + x.size := by omega
      have f4 : ¬ 9223372036854775807 < S.size + (D.size + 1 + x.size + 1) := by omega
      have e1 : (⟨#[32]⟩ : ByteArray).size = 1 := rfl
      have e2 : (⟨#[10]⟩ : ByteArray).size = 1 := rfl
      have q1 := fun W : World => run_string_add_sum (P := Tryd.prog) W D ⟨#[32]⟩ (by rw [e1]; omega)
      have q2 := fun W : World => run_string_add_sum (P := Tryd.prog) W (D ++ ⟨#[32]⟩) x (by rw [h1]; omega)
      have q3 := fun W : World => run_string_add_sum (P := Tryd.prog) W ((D ++ ⟨#[32]⟩) ++ x) ⟨#[10]⟩ (by rw [h2, e2]; omega)
      have q4 := fun W : World => run_string_add_sum (P := Tryd.prog) W S (((D ++ ⟨#[32]⟩) ++ x) ++ ⟨#[10]⟩) (by rw [h3]; omega)
      clear hj hs hmem hrec hx hds hxs hjl htt e1 e2 h1 h2 h3
      go_wp2_with (go_at_call 59; refine HCH.out.mono ?_; rintro e w1 ⟨rfl, rfl⟩)
      go_region_held3 (fun w' => w'.cell? ⟨b, off + k, none⟩ = some (.string x))
        (first | exact d0' | exact hcx)
        (first
          | (go_at_call 49; refine HD.out.mono ?_; rintro e w2 ⟨rfl, hb2⟩; have hb2 := below_undrew hb2; have d0' := (hb2.cell (p := ⟨b, off + k, none⟩) (by simp only []; omega)).trans hcx))
      go_wp2
      go_roundw
      case rel => exact ⟨k + 1, chkS c x, by omega, by go_num, rfl, hcl, Lib.hid HSS.out.symm, by rw [HJS.out, HREC.out], hb.trans (hb2.mono hz)⟩
      case measure => simp [intOf]; omega
    · obtain rfl : k = n := by omega
      have htk : xs.take k = xs := List.take_of_length_le (by omega)
      have HTK := Lib.hid htk
      clear htk
      go_wp2
      go_ret
      exact ⟨by rw [HTK.out]; rfl, hb⟩


set_option maxRecDepth 100000 in
set_option maxHeartbeats 1000000 in
theorem spec_JournalOf_c (w : World) (A : Option Addr) (n cap : Nat) (xs : List ByteArray) (hl : xs.length = n) (hn : totS xs + n ≤ 1048576) (hx : Sl w w.heap.size A (xs.map Value.string)) :
    Calls Tryd.prog 18 #[.slice A n cap] w fun e w' => e = .returned (.tuple #[.string (joT xs), .bool (joB xs)]) ∧ Below w.heap.size w w' := by
  have HJ := Lib.hid (spec_l08Journal_c w A n cap xs hl hn hx)
  go_enter Tryd.func18, Tryd.ntmps18
  go_wp2
  go_loop [4, 5] (fun q i => ∃ k p : Nat, k ≤ n ∧ i = .int .i64 k ∧ q = .int .i64 p ∧ p ≤ 16000 ∧ Hid (p = totS (xs.take k) + 3 * k) ∧ Hid (∀ x ∈ xs.take k, nlB x = false)) (fun _ i => n - (intOf i).toNat)
  case atStart => exact ⟨0, 0, Nat.zero_le _, rfl, rfl, by omega, Lib.hid rfl, Lib.hid (fun x h => by simp at h)⟩
  case round =>
    obtain ⟨k, p, hk, rfl, rfl, hp, HP, HN⟩ := hrel
    by_cases hlt : k < n
    · obtain ⟨b, off, rfl, hbb, hcx⟩ := hx.get k (by omega)
      have hmem : xs[k]'(by omega) ∈ xs := List.getElem_mem _
      have hts : totS (xs.take (k + 1)) = totS (xs.take k) + (xs[k]'(by omega)).size := by
        rw [List.take_succ_eq_append_getElem (by omega), totS_snoc]
      have htk : ∀ y ∈ xs.take (k + 1), y ∈ xs.take k ∨ y = xs[k]'(by omega) := fun y hy => by
        rw [List.take_succ_eq_append_getElem (by omega), List.mem_append] at hy
        simpa using hy
      generalize xs[k]'(by omega) = x at hcx hmem hts htk
      have hxs := totS_mem hmem
      have hXs : x.size ≤ 1048576 := by omega
      have hp2 : p + (x.size + 3) = totS (xs.take (k + 1)) + 3 * (k + 1) := by have := HP.out; omega
      have HP2 := Lib.hid hp2
      have HM := Lib.hid hmem
      have HTK := Lib.hid htk
      clear hp2 hmem htk hts hx hxs
      by_cases hlong : 16000 < p + (x.size + 3)
      · have HF := Lib.hid (jo_tot (xs := xs) (k := k + 1) (by omega) (by rw [← HP2.out]; exact hlong))
        go_wp2
        go_ret2
        exact ⟨by unfold joT; rw [HF.out]; rfl, Below.refl _ _⟩
      · go_wp2
        go_loop [6] (fun i => ∃ j : Nat, j ≤ x.size ∧ i = .int .i64 j ∧ Hid (∀ m (hm : m < x.size), m < j → x[m].toNat ≠ 10)) (fun i => x.size - (intOf i).toNat)
        case atStart => exact ⟨0, Nat.zero_le _, rfl, Lib.hid (fun m _ h => by omega)⟩
        case round =>
          obtain ⟨j, hj, rfl, HI⟩ := hrel
          by_cases hlt2 : j < x.size
          · by_cases h10 : x[j].toNat = 10
            · have HF := Lib.hid (jo_nl HM.out (nl_some hlt2 h10))
              go_wp2
              go_ret2
              exact ⟨by unfold joT; rw [HF.out]; rfl, Below.refl _ _⟩
            · go_wp2
              go_round
              case rel =>
                refine ⟨j + 1, by omega, by go_num, Lib.hid (fun m hm hmj => ?_)⟩
                by_cases he : m = j
                · subst he
                  exact h10
                · exact HI.out m hm (by omega)
              case measure => simp [intOf]; omega
          · obtain rfl : j = x.size := by omega
            have HNL := Lib.hid (nl_none fun m hm => HI.out m hm hm)
            go_wp2
            go_round
            case rel =>
              refine ⟨k + 1, p + (x.size + 3), by omega, by go_num, by go_num, by omega, HP2, Lib.hid (fun y hy => ?_)⟩
              rcases HTK.out y hy with h | rfl
              · exact HN.out y h
              · exact HNL.out
            case measure => simp [intOf]; omega
    · obtain rfl : k = n := by omega
      have htk : xs.take k = xs := List.take_of_length_le (by omega)
      have hn' := HN.out
      rw [htk] at hn'
      have HN' := Lib.hid hn'
      clear hn' htk
      by_cases hlong : 16000 < (jourS 0 xs).size
      · have HF := Lib.hid (jo_long (xs := xs) (k := xs.length) (by rw [List.take_length]; exact hlong))
        go_wp2_with (go_at_call 38; refine HJ.out.mono ?_; rintro e w1 ⟨rfl, hb1⟩)
        go_ret2
        exact ⟨by unfold joT; rw [HF.out]; rfl, hb1⟩
      · have HY := Lib.hid (jo_yes HN'.out (by omega))
        go_wp2_with (go_at_call 38; refine HJ.out.mono ?_; rintro e w1 ⟨rfl, hb1⟩)
        go_ret2
        exact ⟨by unfold joT; rw [HY.out]; rfl, hb1⟩

end Go.Proofs.YthccklkonfappaaDoor
