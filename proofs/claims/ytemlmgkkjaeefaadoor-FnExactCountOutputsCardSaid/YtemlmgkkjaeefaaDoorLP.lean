/-
  Contracts: lines of a text and how many of them are errors, of the program and of the reference.
  Conditions: texts of at most 1048576 bytes; internal/bytealg.MaxLen's cell holds a number.
-/
import Derived.Test.YtemlmgkkjaeefaaDoorLO
namespace Go.Proofs.YtemlmgkkjaeefaaDoor
open Go.RowKit

def linesL (s : ByteArray) : List (List UInt8) := (cutL 10 s.data.toList).dropLast
def restL (s : ByteArray) : List UInt8 := (cutL 10 s.data.toList).getLast (cutL_ne _ _)
theorem lines_eq (s : ByteArray) : cutL 10 s.data.toList = linesL s ++ [restL s] := (List.dropLast_concat_getLast (cutL_ne _ _)).symm
theorem lines_len (s : ByteArray) : (cutL 10 s.data.toList).length = (linesL s).length + 1 := by rw [lines_eq, List.length_append]; rfl
theorem lines_le (s : ByteArray) : (linesL s).length ≤ s.size := by
  have h1 := cutL_len 10 s.data.toList
  have h2 : s.data.toList.length = s.size := by rw [Array.length_toList]; rfl
  rw [lines_len] at h1
  omega
theorem isEmpty_str (l : List UInt8) : (⟨l.toArray⟩ : ByteArray).toList.isEmpty = l.isEmpty := by rw [ByteArray.toList_mk]

theorem ret_vb {v : Value} {a b : Bool} (h : a = b) : Ending.returned (.tuple #[v, .bool a]) = .returned (.tuple #[v, .bool b]) := by rw [h]
theorem own_cap {w : World} {base : Nat} {e : TypeId} {size n m cap : Nat} {A : Option Addr} {xs : List Value} (h : w.ownsRow base e size (.slice A m cap) n xs) (hn : 0 < n) : n ≤ cap := by
  rcases h.2 with ⟨h1, h2⟩ | ⟨g, c, cur, h1, _, _, h2, _⟩
  · omega
  · injection h1 with _ _ h1
    omega
theorem sl_take {w : World} {B : Nat} {A : Option Addr} {xs ys : List Value} (h : Sl w B A (xs ++ ys)) : Sl w B A xs := by
  rcases h with h | ⟨b, off, e, hb, hc⟩
  · left
    exact (List.append_eq_nil_iff.1 h).1
  · exact .inr ⟨b, off, e, hb, fun j u hu => hc j u (by rw [List.getElem?_append_left (List.getElem?_eq_some_iff.1 hu).1]; exact hu)⟩


set_option maxRecDepth 100000 in
set_option maxHeartbeats 1000000 in
theorem impl_linesOf_c (w : World) (s : ByteArray) (hs : s.size ≤ 1048576) (hm : maxLenOk w) :
    Calls Tryd.prog 7 #[.string s] w fun e w' => ∃ A cap, e = .returned (.tuple #[.slice A (linesL s).length cap, .bool (decide (s.size ≤ 16000) && (restL s).isEmpty)]) ∧ Sl w' w'.heap.size A ((linesL s).map strV) ∧ Below w.heap.size w w' := by
  have hle := lines_le s
  by_cases h1 : s.size ≤ 16000
  · have hd : decide ((s.size : Int) ≤ 16000) = true := by simp; omega
    rw [decide_eq_true h1, Bool.true_and]
    go_enter Tryd.func7, Tryd.ntmps7
    go_wp2_with fail
    refine (Split_c w s 10 hs hm).mono ?_
    rintro e w1 ⟨A, rfl, ho, hb⟩
    rw [lines_len] at ho ⊢
    have hsl := (sl_of_own ho)
    have hsl1 : Sl w1 w1.heap.size A ((linesL s).map strV) := by
      rw [lines_eq, List.map_append] at hsl
      exact sl_take hsl
    have hA : ∃ g off, A = some ⟨g, off, none⟩ ∧ w1.cell? ⟨g, off + (linesL s).length, none⟩ = some (strV (restL s)) := by
      obtain ⟨g, off, e, _, hc⟩ := hsl.get (linesL s).length (by rw [lines_len]; omega)
      refine ⟨g, off, e, ?_⟩
      rw [hc]
      simp [lines_eq]
    obtain ⟨g, off, rfl, hc⟩ := hA
    unfold strV at hc
    clear hsl ho
    go_wp2
    go_quiet (fail)
    go_wp2
    go_ret2
    exact ⟨_, _, rfl, (hsl1.drewN _).more (Nat.le_refl _), below_drewN hb _⟩
  · have hd : decide ((s.size : Int) ≤ 16000) = false := by simp; omega
    rw [decide_eq_false h1, Bool.false_and]
    go_enter Tryd.func7, Tryd.ntmps7
    go_wp2_with fail
    refine (Split_c w s 10 hs hm).mono ?_
    rintro e w1 ⟨A, rfl, ho, hb⟩
    rw [lines_len] at ho ⊢
    have hsl := (sl_of_own ho)
    have hsl1 : Sl w1 w1.heap.size A ((linesL s).map strV) := by
      rw [lines_eq, List.map_append] at hsl
      exact sl_take hsl
    obtain ⟨g, off, rfl, _, _⟩ := hsl.get (linesL s).length (by rw [lines_len]; omega)
    clear hsl ho
    go_wp2
    go_quiet (fail)
    go_wp2
    go_ret2
    exact ⟨_, _, rfl, (hsl1.drewN _).more (Nat.le_refl _), below_drewN hb _⟩


set_option maxRecDepth 100000 in
set_option maxHeartbeats 1000000 in
theorem spec_l08Lines_c (w : World) (s : ByteArray) (hs : s.size ≤ 1048576) :
    Calls Tryd.prog 6 #[.string s] w fun e w' => ∃ A cap, e = .returned (.tuple #[.slice A (linesL s).length cap, strV (restL s)]) ∧ Sl w' w'.heap.size A ((linesL s).map strV) ∧ Below w.heap.size w w' := by
  have hle := lines_le s
  have hL := spec_l01Cut_c w s 10 hs
  have HL := Lib.hid hL
  clear hL
  go_enter Tryd.func6, Tryd.ntmps6
  go_wp2_with fail
  refine HL.out.mono ?_
  rintro e w1 ⟨v, rfl, ho, hb⟩
  obtain ⟨A, cap, rfl, hp⟩ := ho.opn
  rw [lines_len] at hp ⊢
  have hcap := own_cap hp (by omega)
  have hsl := (sl_of_own hp)
  have hsl1 : Sl w1 w1.heap.size A ((linesL s).map strV) := by
    rw [lines_eq, List.map_append] at hsl
    exact sl_take hsl
  have hA : ∃ g off, A = some ⟨g, off, none⟩ ∧ w1.cell? ⟨g, off + (linesL s).length, none⟩ = some (strV (restL s)) := by
    obtain ⟨g, off, e, _, hc⟩ := hsl.get (linesL s).length (by rw [lines_len]; omega)
    refine ⟨g, off, e, ?_⟩
    rw [hc]
    simp [lines_eq]
  obtain ⟨g, off, rfl, hc⟩ := hA
  unfold strV at hc
  have hw1 : IntKind.i64.wrap ((((linesL s).length + 1 : Nat) : Int) - 1) = ((linesL s).length : Int) := by rw [IntWalk.i64_in _ (by omega)]; omega
  have hw2 : IntKind.i64.wrap (((linesL s).length : Int) + 1 - 1) = ((linesL s).length : Int) := by rw [IntWalk.i64_in _ (by omega)]; omega
  clear hsl ho hp
  go_wp2
  go_quiet (fail)
  go_wp2
  go_ret2
  exact ⟨_, _, rfl, (hsl1.drewN _).more (Nat.le_refl _), below_drewN hb _⟩

def errB (l : List UInt8) : Bool := l == [110, 111] || l == [119, 104, 97, 116]
def badN (xs : List (List UInt8)) : Nat := (xs.filter errB).length
theorem badN_le (xs : List (List UInt8)) : badN xs ≤ xs.length := List.length_filter_le _ _
theorem badN_succ {xs : List (List UInt8)} {k : Nat} (hk : k < xs.length) : badN (xs.take (k + 1)) = badN (xs.take k) + (errB xs[k]).toNat := by
  unfold badN
  rw [List.take_succ_eq_append_getElem hk, List.filter_append, List.length_append]
  congr 1
  cases h : errB xs[k]
  · rw [List.filter_cons_of_neg (by simp [h])]; rfl
  · rw [List.filter_cons_of_pos (by simp [h])]; rfl
def okLines (s : ByteArray) : Bool := decide (s.size ≤ 16000) && (restL s).isEmpty
def badOf (s : ByteArray) : Int := if okLines s then badN (linesL s) else 0
def goodOf (s : ByteArray) : Int := if okLines s then (linesL s).length - badN (linesL s) else 0


set_option maxRecDepth 100000 in
set_option maxHeartbeats 1000000 in
theorem impl_CountOutputs_c (w : World) (s : ByteArray) (hs : s.size ≤ 1048576) (hm : maxLenOk w) :
    Calls Tryd.prog 5 #[.string s] w fun e w' => e = .returned (.tuple #[.int .i64 (badOf s), .int .i64 (goodOf s), .bool (okLines s)]) ∧ Below w.heap.size w w' := by
  have hle := lines_le s
  unfold badOf goodOf
  cases hok : okLines s
  · unfold okLines at hok
    have HO := Lib.hid hok
    clear hok
    go_enter Tryd.func5, Tryd.ntmps5
    go_wp2_with fail
    refine (impl_linesOf_c w s hs hm).mono ?_
    rintro e w1 ⟨A, cap, rfl, hsl, hb⟩
    rw [HO.out]
    go_wp2
    go_ret3
    exact ⟨rfl, hb⟩
  · unfold okLines at hok
    have HO := Lib.hid hok
    clear hok
    go_enter Tryd.func5, Tryd.ntmps5
    go_wp2_with fail
    refine (impl_linesOf_c w s hs hm).mono ?_
    rintro e w1 ⟨A, cap, rfl, hsl, hb⟩
    rw [HO.out]
    go_wp2
    go_loop [7, 19] (fun x i => ∃ k : Nat, k ≤ (linesL s).length ∧ i = .int .i64 k ∧ x = .int .i64 (badN ((linesL s).take k))) (fun _ i => (linesL s).length - (intOf i).toNat)
    case atStart => exact ⟨0, Nat.zero_le _, rfl, rfl⟩
    case round =>
      obtain ⟨k, hk, rfl, rfl⟩ := hrel
      by_cases hlt : k < (linesL s).length
      · obtain ⟨g, off, rfl, _, hc⟩ := hsl.get k hlt
        have hs1 := badN_succ hlt
        have hle1 := badN_le ((linesL s).take k)
        have hle2 : ((linesL s).take k).length ≤ k := List.length_take_le _ _
        unfold strV at hc
        by_cases h1 : (linesL s)[k] = [110, 111]
        · rw [h1] at hc hs1
          have HS := Lib.hid hs1
          clear hs1 hsl h1
          go_wp2
          go_round
          case rel => exact ⟨k + 1, by omega, by go_num, by rw [HS.out]; rfl⟩
          case measure => simp [intOf] <;> omega
        · by_cases h2 : (linesL s)[k] = [119, 104, 97, 116]
          · rw [h2] at hc hs1
            have HS := Lib.hid hs1
            clear hs1 hsl h1 h2
            go_wp2
            go_round
            case rel => exact ⟨k + 1, by omega, by go_num, by rw [HS.out]; rfl⟩
            case measure => simp [intOf] <;> omega
          · have b1 : ((linesL s)[k] == [110, 111]) = false := by simpa using h1
            have b2 : ((linesL s)[k] == [119, 104, 97, 116]) = false := by simpa using h2
            have b3 : errB (linesL s)[k] = false := by unfold errB; rw [b1, b2]; rfl
            rw [b3] at hs1
            have HS := Lib.hid hs1
            clear hs1 hsl b3
            go_wp2
            go_round
            case rel => exact ⟨k + 1, by omega, by go_num, by rw [HS.out]; rfl⟩
            case measure => simp [intOf] <;> omega
      · have e1 : (linesL s).take k = linesL s := List.take_of_length_le (by omega)
        have hle1 := badN_le (linesL s)
        rw [e1]
        clear e1
        go_wp2
        go_ret3
        exact ⟨rfl, hb⟩


set_option maxRecDepth 100000 in
set_option maxHeartbeats 1000000 in
theorem spec_CountOutputs_c (w : World) (s : ByteArray) (hs : s.size ≤ 1048576) :
    Calls Tryd.prog 4 #[.string s] w fun e w' => e = .returned (.tuple #[.int .i64 (badOf s), .int .i64 (goodOf s), .bool (okLines s)]) ∧ Below w.heap.size w w' := by
  have hle := lines_le s
  unfold badOf goodOf
  by_cases h16 : s.size ≤ 16000
  · have ed : okLines s = (restL s).isEmpty := by unfold okLines; rw [decide_eq_true h16, Bool.true_and]
    rw [ed]
    have hd : decide ((16000 : Int) < s.size) = false := by simp; omega
    cases hr : (restL s).isEmpty
    · have HR := Lib.hid hr
      clear hr ed
      go_enter Tryd.func4, Tryd.ntmps4
      go_wp2_with fail
      refine (spec_l08Lines_c w s hs).mono ?_
      rintro e w1 ⟨A, cap, rfl, hsl, hb⟩
      unfold strV
      have hr := HR.out
      go_wp2
      go_ret3
      exact ⟨rfl, hb⟩
    · have HR := Lib.hid hr
      clear hr ed
      go_enter Tryd.func4, Tryd.ntmps4
      go_wp2_with fail
      refine (spec_l08Lines_c w s hs).mono ?_
      rintro e w1 ⟨A, cap, rfl, hsl, hb⟩
      have hr2 : restL s = [] := by simpa using HR.out
      rw [hr2]
      unfold strV
      clear hr2
      go_wp2
      go_loop [7, 8] (fun x i => ∃ k : Nat, k ≤ (linesL s).length ∧ i = .int .i64 k ∧ x = .int .i64 (badN ((linesL s).take k))) (fun _ i => (linesL s).length - (intOf i).toNat)
      case atStart => exact ⟨0, Nat.zero_le _, rfl, rfl⟩
      case round =>
        obtain ⟨k, hk, rfl, rfl⟩ := hrel
        by_cases hlt : k < (linesL s).length
        · obtain ⟨g, off, rfl, _, hc⟩ := hsl.get k hlt
          have hs1 := badN_succ hlt
          have hle1 := badN_le ((linesL s).take k)
          have hle2 : ((linesL s).take k).length ≤ k := List.length_take_le _ _
          unfold strV at hc
          by_cases h1 : (linesL s)[k] = [110, 111]
          · rw [h1] at hc hs1
            have HS := Lib.hid hs1
            clear hs1 hsl h1
            go_wp2
            go_round
            case rel => exact ⟨k + 1, by omega, by go_num, by rw [HS.out]; rfl⟩
            case measure => simp [intOf] <;> omega
          · by_cases h2 : (linesL s)[k] = [119, 104, 97, 116]
            · rw [h2] at hc hs1
              have HS := Lib.hid hs1
              clear hs1 hsl h1 h2
              go_wp2
              go_round
              case rel => exact ⟨k + 1, by omega, by go_num, by rw [HS.out]; rfl⟩
              case measure => simp [intOf] <;> omega
            · have b1 : ((linesL s)[k] == [110, 111]) = false := by simpa using h1
              have b2 : ((linesL s)[k] == [119, 104, 97, 116]) = false := by simpa using h2
              have b3 : errB (linesL s)[k] = false := by unfold errB; rw [b1, b2]; rfl
              rw [b3] at hs1
              have HS := Lib.hid hs1
              clear hs1 hsl b3
              go_wp2
              go_round
              case rel => exact ⟨k + 1, by omega, by go_num, by rw [HS.out]; rfl⟩
              case measure => simp [intOf] <;> omega
        · have e1 : (linesL s).take k = linesL s := List.take_of_length_le (by omega)
          have hle1 := badN_le (linesL s)
          rw [e1]
          clear e1
          go_wp2
          go_ret3
          exact ⟨rfl, hb⟩
  · have ed : okLines s = false := by unfold okLines; rw [decide_eq_false h16, Bool.false_and]
    rw [ed]
    clear ed
    go_enter Tryd.func4, Tryd.ntmps4
    go_wp2
    go_ret3
    exact ⟨rfl, Below.refl _ _⟩

end Go.Proofs.YtemlmgkkjaeefaaDoor
