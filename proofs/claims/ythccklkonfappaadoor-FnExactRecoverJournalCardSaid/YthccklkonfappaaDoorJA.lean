/-
  Contracts of the laws' helpers for rows of texts: sizes, copies, comparisons; such an argument, opened.
  Conditions: at most 1048576 texts where memory is made.
-/
import Derived.Test.YthccklkonfappaaDoorH
import Derived.Test.YthccklkonfappaaDoorO
import Derived.Test.YthccklkonfappaaDoorDL
import Derived.Deep.RegionHeld3
namespace Go.Proofs.YthccklkonfappaaDoor
open Go.ChangeShapes Go.WideShapes Go.ChangeAt Go.RowKit



theorem cells_str : Tryd.prog.cellsOf 9 = 1 := by kernel_rfl
theorem elem_str {H : Type} {enc : TypeId × Value → H} {P : Program} {w : World} {e : TypeId} (he : P.underlying e = some .string) : ∀ (n : Nat) (v : Value) (x : DataW H × List MemPlace), DataW.trod enc P w 0 (fun _ => true) true n e [v] = some x → ∃ a : ByteArray, v = .string a ∧ a.size ≤ maxLen := by
  intro n v x h
  obtain ⟨s, h1, h2, h3⟩ := DataW.trod_string he h
  exact ⟨s, by simpa using h1, h3⟩
set_option maxRecDepth 100000 in
theorem open_strs {H : Type} {enc : TypeId × Value → H} {w : World} {r : Reach} {b0 : Nat} {v : Value} {d : DataW H} {p : List MemPlace} (hval : Value.okWide Tryd.prog w r b0 40 v) (h : DataW.Trod enc Tryd.prog w 0 (fun _ => true) true 40 v d p) :
    ∃ (A : Option Addr) (n cap : Nat) (xs : List ByteArray), v = .slice A n cap ∧ xs.length = n ∧ n ≤ cap ∧ cap ≤ maxLen ∧ (∀ a ∈ xs, a.size ≤ maxLen) ∧ Sl w w.heap.size A (xs.map Value.string) := by
  haveI : Inhabited ByteArray := ⟨ByteArray.empty⟩
  have h1 := @open_sl H enc Tryd.prog ByteArray _ Value.string (fun a => a.size ≤ maxLen) 40 9 Tryd.underlying40 cells_str w
  have h2 := @elem_str H enc Tryd.prog w 9 Tryd.underlying9
  have h3 := @h1 h2 r b0 v d p
  exact h3 hval h


/-- the bytes of texts -/
def totS : List ByteArray → Nat
  | [] => 0
  | x :: xs => x.size + totS xs
theorem totS_snoc (xs : List ByteArray) (x : ByteArray) : totS (xs ++ [x]) = totS xs + x.size := by
  induction xs with
  | nil => simp [totS]
  | cons y ys ih => simp only [List.cons_append, totS, ih]; omega
set_option maxRecDepth 100000 in
set_option maxHeartbeats 1000000 in
theorem szStringS_c (w : World) (B : Nat) (A : Option Addr) (n cap : Nat) (xs : List ByteArray) (left : Int) (h0 : 0 ≤ left) (h1 : left ≤ 1048576) (hl : xs.length = n) (hn : n ≤ 9223372036854775807) (hr : ∀ r ∈ xs, r.size ≤ 9223372036854775807) (hx : Sl w B A (xs.map Value.string)) :
    Calls Tryd.prog 17 #[.slice A n cap, .int .i64 left] w fun e w' => ∃ q : Int, e = .returned (.int .i64 q) ∧ (q = -1 ∨ (0 ≤ q ∧ q ≤ left - n - (totS xs : Nat))) ∧ w = w' := by
  by_cases hlt : left - n < 0
  · go_enter Tryd.func17, Tryd.ntmps17
    go_wp2
    go_ret
    exact ⟨_, rfl, .inl rfl, rfl⟩
  · have HR := Lib.hid hr
    clear hr
    go_enter Tryd.func17, Tryd.ntmps17
    go_wp2
    go_loop [1, 5] (fun q i => ∃ (k : Nat) (p : Int), k ≤ n ∧ i = .int .i64 k ∧ q = .int .i64 p ∧ 0 ≤ p ∧ p ≤ 1048576 ∧ Hid (p = left - n - (totS (xs.take k) : Nat))) (fun _ i => n - (intOf i).toNat)
    case atStart => exact ⟨0, left - n, Nat.zero_le _, rfl, by go_num, by omega, by omega, Lib.hid (by simp [totS])⟩
    case round =>
      obtain ⟨k, p, hk, rfl, rfl, hp0, hp1, HP⟩ := hrel
      by_cases hlt2 : k < n
      · obtain ⟨b, off, rfl, hbb, hc1⟩ := hx.get k (by omega)
        have hm := HR.out (xs[k]'(by omega)) (List.getElem_mem _)
        have htk : totS (xs.take (k + 1)) = totS (xs.take k) + (xs[k]'(by omega)).size := by
          rw [List.take_succ_eq_append_getElem (by omega), totS_snoc]
        generalize xs[k]'(by omega) = x at hc1 hm htk
        have hP := HP.out
        have HT := Lib.hid htk
        have HPP := Lib.hid hP
        clear htk hx hP HP
        by_cases hneg : p - (x.size : Int) < 0
        · go_wp2
          go_ret
          exact ⟨_, rfl, .inl rfl, rfl⟩
        · go_wp2
          go_round
          case rel => exact ⟨k + 1, p - (x.size : Int), by omega, by go_num, by go_num, by omega, by omega, Lib.hid (by rw [HT.out, HPP.out]; omega)⟩
          case measure => simp [intOf]; omega
      · obtain rfl : k = n := by omega
        have hP := HP.out
        rw [List.take_of_length_le (by omega)] at hP
        have HPP := Lib.hid hP
        clear hP HP
        go_wp2
        go_ret
        exact ⟨_, rfl, .inr ⟨hp0, by rw [HPP.out]; omega⟩, rfl⟩


set_option maxHeartbeats 400000 in
theorem toStringS_c (w : World) (A : Option Addr) (n cap : Nat) (xs : List ByteArray) (hl : xs.length = n) (hn : n ≤ 1048576) (hx : Sl w w.heap.size A (xs.map Value.string)) :
    Calls Tryd.prog 19 #[.slice A n cap] w fun e w' => ∃ v, e = .returned v ∧ Ow w' w.heap.size 9 v (xs.map Value.string) ∧ Below w.heap.size w w' := by
  obtain ⟨i0, hi, hz0, hz1, hz2⟩ := info_parts infoStr
  obtain ⟨w1, hmk, hown, hgr⟩ := run_make_full (P := Tryd.prog) w w.heap.size 40 9 i0 (.string ByteArray.empty) 1 Tryd.underlying40 hi hz0 hz1 .i64 .i64 n (by rw [hz2]; omega) (by unfold maxLen; omega) (Nat.le_refl _)
  have hb1 : Below w.heap.size w w1 := (Below.refl _ _).grown hgr (Nat.le_refl _) (by simp)
  go_enter Tryd.func19, Tryd.ntmps19
  go_wp2
  clear hgr hmk
  go_loopw [4] (fun i wr => ∃ k : Nat, k ≤ n ∧ i = .int .i64 k ∧ wr.ownsRow w.heap.size 9 1 (.slice (some ⟨w.heap.size, 0, none⟩) n n) n ((xs.take k ++ List.replicate (n-k) ByteArray.empty).map Value.string) ∧ Below w.heap.size w wr) (fun i _ => n - (intOf i).toNat)
  case atStart =>
    refine ⟨0, Nat.zero_le _, rfl, ?_, hb1⟩
    simpa [Value.cells, toList_madeCells_one] using hown
  case round =>
    clear hown hb1
    obtain ⟨k, hk, rfl, ho, hb⟩ := hrel
    by_cases hlt : k < n
    · obtain ⟨b, off, rfl, hbb, hc1⟩ := (hx.below hb).get k (by omega)
      have hs := ho.stored k (Value.string (xs[k]'(by omega)))
      have hc2 := ho.cellAt k (by omega)
      have hf := ho.frozenAt k
      go_wp2
      go_roundw
      case rel =>
        refine ⟨k+1, by omega, by go_num, ?_, hb.setCell (p := ⟨w.heap.size, k, none⟩) (Nat.le_refl _) _⟩
        have h1 := hs.1
        rw [← List.map_set, fill_set xs ByteArray.empty n k hl hlt] at h1
        exact h1
      case measure => simp [intOf]; omega
    · have : k = n := by omega
      subst this
      go_wp2
      go_ret
      refine ⟨_, rfl, ?_, hb⟩
      unfold Ow
      simpa [take_all hl, hl] using ho


set_option maxHeartbeats 400000 in
theorem eqStringS_t (w : World) (A B : Option Addr) (n cap cap' b1 b2 : Nat) (xs : List ByteArray) (hl : xs.length = n) (hn : n ≤ 1099511627776) (hx : Sl w b1 A (xs.map Value.string)) (hy : Sl w b2 B (xs.map Value.string)) :
    Calls Tryd.prog 21 #[.slice A n cap, .slice B n cap'] w fun e w' => e = .returned (.bool true) ∧ ∃ n, w' = w.drewN n := by
  go_enter Tryd.func21, Tryd.ntmps21
  go_wp2
  go_loopw [5] (fun i wr => ∃ k m : Nat, k ≤ n ∧ i = .int .i64 k ∧ wr = w.drewN m) (fun i _ => n - (intOf i).toNat)
  case atStart => exact ⟨0, 0, Nat.zero_le _, rfl, rfl⟩
  case round =>
    obtain ⟨k, m, hk, rfl, rfl⟩ := hrel
    by_cases hlt : k < n
    · obtain ⟨b, off, rfl, hbb, hc1⟩ := hx.get k (by omega)
      obtain ⟨b', off', rfl, hbb', hc2⟩ := hy.get k (by omega)
      clear hx hy
      go_wp2
      go_quiet (fail)
      go_wp2
      go_roundw
      case rel => exact ⟨k+1, _, by omega, by go_num, rfl⟩
      case measure => simp [intOf]; omega
    · have : k = n := by omega
      subst this
      go_wp2
      go_ret
      exact ⟨rfl, _, rfl⟩

end Go.Proofs.YthccklkonfappaaDoor
