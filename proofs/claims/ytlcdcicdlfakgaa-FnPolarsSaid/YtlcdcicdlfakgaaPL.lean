/-
  Contracts: the losses of a polarization.
  Conditions: none beyond each theorem's own.
-/
import Derived.Test.YtlcdcicdlfakgaaFB
import Derived.Test.YtlcdcicdlfakgaaCB
import Derived.Test.YtlcdcicdlfakgaaH
namespace Go.Proofs.Ytlcdcicdlfakgaa
open Go.RowKit


def shareB (x : Nat) : Bool := (FloatKind.f32.format.order x 0 == some Ordering.gt || FloatKind.f32.format.order x 0 == some Ordering.eq) && (FloatKind.f32.format.order x 1065353216 == some Ordering.lt || FloatKind.f32.format.order x 1065353216 == some Ordering.eq)

theorem share_unfold (x : Nat) (h : FloatKind.f32.format.order x 0 = some Ordering.gt ∨ FloatKind.f32.format.order x 0 = some Ordering.eq) :
    shareB x = (FloatKind.f32.format.order x 1065353216 == some Ordering.lt || FloatKind.f32.format.order x 1065353216 == some Ordering.eq) := by
  unfold shareB
  rcases h with h | h <;> rw [h] <;> rfl
theorem share_not (x : Nat) (h : ¬ (FloatKind.f32.format.order x 0 = some Ordering.gt ∨ FloatKind.f32.format.order x 0 = some Ordering.eq)) : shareB x = false := by
  unfold shareB
  have e : (FloatKind.f32.format.order x 0 == some Ordering.gt || FloatKind.f32.format.order x 0 == some Ordering.eq) = false := by simpa using h
  rw [e]
  rfl

set_option maxRecDepth 100000 in
theorem impl_isShare_c (w : World) (x : Nat) : Calls Try.prog 32 #[.float .f32 x] w fun e w' => e = .returned (.bool (shareB x)) ∧ w = w' := by
  go_enter Try.func32, Try.ntmps32
  go_wp2
  · go_ret
    exact ⟨rfl, rfl⟩
  · go_ret
    rename_i h
    exact ⟨ret_bool (share_not x h).symm, rfl⟩

set_option maxRecDepth 100000 in
theorem spec_l02Share_c (w : World) (x : Nat) : Calls Try.prog 76 #[.float .f32 x] w fun e w' => e = .returned (.bool (shareB x)) ∧ w = w' := by
  go_enter Try.func76, Try.ntmps76
  go_wp2
  · go_ret
    exact ⟨rfl, rfl⟩
  · go_ret
    rename_i h
    exact ⟨ret_bool (share_not x h).symm, rfl⟩

theorem cmp_lt {a b : Int} (h : a < b) : compare a b = .lt := by
  show compareOfLessAndEq a b = .lt
  unfold compareOfLessAndEq
  rw [if_pos h]
theorem cmp_gt {a b : Int} (h : b < a) : compare a b = .gt := by
  show compareOfLessAndEq a b = .gt
  unfold compareOfLessAndEq
  rw [if_neg (by omega), if_neg (by omega)]

theorem read_zero : Ieee.single.read 0 = .number false 0 (-149) := by decide
theorem read_one : Ieee.single.read 1065353216 = .number false 8388608 (-23) := by decide

theorem share_low {x : Nat} (h : shareB x = true) : Low 1 x := by
  unfold Low
  refine Classical.byContradiction fun hn => ?_
  have hr : 128 * 8388608 ≤ x % 2147483648 := by omega
  have key : Ieee.Datum.order (Ieee.single.read x) (.number false 0 (-149)) = some .lt ∨ Ieee.Datum.order (Ieee.single.read x) (.number false 0 (-149)) = none ∨ Ieee.Datum.order (Ieee.single.read x) (.number false 8388608 (-23)) = some .gt := by
    unfold Ieee.Format.read
    dsimp only
    rw [sw32, bi32, ir32]
    have el : Ieee.single.leastPlace = -149 := by decide
    rw [el, if_neg (by omega)]
    cases hs : (x / 2147483648 % 2 == 1)
    · split
      · refine .inr (.inr ?_)
        have h4 : 128 ≤ x % 2147483648 / 8388608 := by omega
        obtain ⟨q, hq⟩ : ∃ q : Int, -149 + ((x % 2147483648 / 8388608 - 1 : Nat) : Int) = q := ⟨_, rfl⟩
        rw [hq]
        have hq2 : -22 ≤ q := by omega
        have hm : min q (-23) = -23 := by omega
        show some (compare (Ieee.signed false _ (q - min q (-23)).toNat) (Ieee.signed false 8388608 (-23 - min q (-23)).toNat)) = _
        rw [hm]
        refine congrArg some (cmp_gt ?_)
        show ((8388608 <<< ((-23 : Int) - -23).toNat : Nat) : Int) < (((8388608 + x % 2147483648 % 8388608) <<< (q - -23).toNat : Nat) : Int)
        have e0 : ((-23 : Int) - -23).toNat = 0 := by decide
        rw [e0, Nat.shiftLeft_eq, Nat.shiftLeft_eq]
        have h5 : 2 ^ 1 ≤ 2 ^ (q - -23).toNat := Nat.pow_le_pow_right (by omega) (by omega)
        have h6 : 8388608 * 2 ^ 1 ≤ (8388608 + x % 2147483648 % 8388608) * 2 ^ (q - -23).toNat := Nat.mul_le_mul (by omega) h5
        have h7 : (8388608 * 2 ^ 0 : Nat) < 8388608 * 2 ^ 1 := by decide
        exact Int.ofNat_lt.2 (Nat.lt_of_lt_of_le h7 h6)
      · split
        · exact .inr (.inr rfl)
        · exact .inr (.inl rfl)
    · split
      · refine .inl ?_
        obtain ⟨q, hq⟩ : ∃ q : Int, -149 + ((x % 2147483648 / 8388608 - 1 : Nat) : Int) = q := ⟨_, rfl⟩
        rw [hq]
        show some (compare (Ieee.signed true _ (q - min q (-149)).toNat) (Ieee.signed false 0 (-149 - min q (-149)).toNat)) = _
        refine congrArg some (cmp_lt ?_)
        show -(((8388608 + x % 2147483648 % 8388608) <<< (q - min q (-149)).toNat : Nat) : Int) < ((0 <<< (-149 - min q (-149)).toNat : Nat) : Int)
        rw [Nat.shiftLeft_eq, Nat.shiftLeft_eq, Nat.zero_mul]
        have h5 : 0 < 2 ^ (q - min q (-149)).toNat := Nat.two_pow_pos _
        have h6 : 0 < (8388608 + x % 2147483648 % 8388608) * 2 ^ (q - min q (-149)).toNat := Nat.mul_pos (by omega) h5
        omega
      · split
        · exact .inl rfl
        · exact .inr (.inl rfl)
  unfold shareB at h
  rw [Bool.and_eq_true] at h
  have o1 : FloatKind.f32.format.order x 0 = Ieee.Datum.order (Ieee.single.read x) (.number false 0 (-149)) := by rw [← read_zero]; rfl
  have o2 : FloatKind.f32.format.order x 1065353216 = Ieee.Datum.order (Ieee.single.read x) (.number false 8388608 (-23)) := by rw [← read_one]; rfl
  rw [o1, o2] at h
  rcases key with k | k | k <;> rw [k] at h
  · cases h.1
  · cases h.1
  · cases h.2


def lossStep (z : Nat) : List Nat := [vop .sub (vop .add z z) (vop .mul z z), vop .mul z z]
def lossIt (x : Nat) : Nat → List Nat
  | 0 => [x]
  | j + 1 => (lossIt x j).flatMap lossStep
def lv : Nat → Nat
  | 0 => 1
  | j + 1 => 2 * lv j + 3
theorem lv_bd : ∀ j < 6, 1 ≤ lv j ∧ lv j ≤ 125 ∧ (j < 5 → lv j ≤ 61) := by decide
theorem lossIt_low {x : Nat} (hx : Low 1 x) : ∀ j < 6, ∀ z ∈ lossIt x j, Low (lv j) z
  | 0, _, z, hz => by
    simp only [lossIt, List.mem_singleton] at hz
    subst hz
    exact hx
  | j + 1, hj, z, hz => by
    simp only [lossIt, List.mem_flatMap] at hz
    obtain ⟨y, hy, hz⟩ := hz
    have h1 := lossIt_low hx j (by omega) y hy
    have h2 := lv_bd j (by omega)
    obtain ⟨_, _, _, h3, h4⟩ := step_low h2.1 (by have := h2.2.2 (by omega); omega) h1
    simp only [lossStep, List.mem_cons, List.not_mem_nil, or_false] at hz
    rcases hz with rfl | rfl
    · exact h3
    · exact h4
theorem flatMap_len (l : List Nat) : (l.flatMap lossStep).length = 2 * l.length := by
  induction l with
  | nil => rfl
  | cons a l ih => rw [List.flatMap_cons, List.length_append, ih]; simp [lossStep]; omega
theorem lossIt_len (x : Nat) (j : Nat) : (lossIt x j).length = 2 ^ j := by
  induction j with
  | zero => rfl
  | succ j ih => rw [lossIt, flatMap_len, ih, Nat.pow_succ]; omega
theorem cells2 (w : World) (u v : Value) (e : TypeId) : ∀ j q, [u, v][j]? = some q → (w.alloc (.cells #[u, v] e)).cell? ⟨w.heap.size, j, none⟩ = some q := by
  intro j q h
  have h1 := cell_of_row (w.alloc (.cells #[u, v] e)) w.heap.size j #[u, v] e (0, 0) (heap_alloc_new w _)
  rw [h1]
  match j, h with
  | 0, h => exact h
  | 1, h => exact h

theorem own_dalloc {w : World} {n base : Nat} {e : TypeId} {v : Value} {xs : List Value} (h : Ow w base e v xs) (o : Obj) : Ow ((w.drewN n).alloc o) base e v xs :=
  World.ownsRow.alloc (w := w.drewN n) h o
theorem cells2d (w : World) (n : Nat) (u v : Value) (e : TypeId) : ∀ j q, [u, v][j]? = some q → ((w.drewN n).alloc (.cells #[u, v] e)).cell? ⟨w.heap.size, j, none⟩ = some q := cells2 (w.drewN n) u v e

set_option maxRecDepth 100000 in
set_option maxHeartbeats 1000000 in
theorem spec_l07Losses_c (w : World) (P : Nat) (x : Nat) (hP : P ≤ 5) (hx : Low 1 x) :
    Calls Try.prog 56 #[.int .i64 (P : Int), .float .f32 x] w fun e w' => ∃ v, e = .returned v ∧ Ow w' w.heap.size 29 v ((lossIt x P).map (Value.float .f32)) ∧ Below w.heap.size w w' := by
  have hlow := lossIt_low hx
  have HL := Lib.hid hlow
  clear hlow hx
  go_enter Try.func56, Try.ntmps56
  go_wp2
  have ho0 : Ow (w.alloc (.cells #[Value.float .f32 x] 29)) w.heap.size 29 (.slice (some ⟨w.heap.size, 0, none⟩) 1 1) ((lossIt x 0).map (Value.float .f32)) :=
    World.ownsRow_lit (e := 29) (size := 1) w #[Value.float .f32 x] 1 (Nat.le_refl _) (by unfold maxLen; omega) rfl
  have hb0 := (Below.refl w.heap.size w).alloc (Nat.le_refl _) (.cells #[Value.float .f32 x] 29)
  go_loopw [0, 5] (fun t v wr => ∃ j : Nat, j ≤ P ∧ t = .int .i64 ((P : Int) - (j : Int)) ∧ Ow wr w.heap.size 29 v ((lossIt x j).map (Value.float .f32)) ∧ Below w.heap.size w wr) (fun t _ _ => (intOf t).toNat)
  case atStart => exact ⟨0, Nat.zero_le _, by simp, ho0, hb0⟩
  case round =>
    clear ho0 hb0
    obtain ⟨j, hj, rfl, ho, hb⟩ := hrel
    obtain ⟨A, cap, rfl, _, hS⟩ := ho.sl
    have HO := Lib.hid ho
    clear ho
    have hlen := lossIt_len x j
    have hp32 : 2 ^ j ≤ 2 ^ 5 := Nat.pow_le_pow_right (by omega) (by omega)
    have hlow := HL.out j (by omega)
    have hlv := lv_bd j (by omega)
    have hnx : lossIt x (j + 1) = (lossIt x j).flatMap lossStep := rfl
    obtain ⟨l, hl⟩ : ∃ l, lossIt x j = l := ⟨_, rfl⟩
    rw [hl] at hS hlen hlow hnx ⊢
    rw [← hlen] at hp32
    have HX := Lib.hid hnx
    have HW := Lib.hid hlow
    have HV := Lib.hid hlv
    rw [List.length_map]
    clear hnx hlow hlv hlen
    by_cases hlt : j < P
    · go_wp2
      obtain ⟨n, hn⟩ : ∃ n, l.length = n := ⟨_, rfl⟩
      rw [hn] at hp32 ⊢
      obtain ⟨wo, rfl⟩ : ∃ wo : World, wo = wr := ⟨_, rfl⟩
      go_loopw [6, 18] (fun v i wr => ∃ k : Nat, k ≤ n ∧ i = .int .i64 k ∧ Ow wr wo.heap.size 29 v (((l.take k).flatMap lossStep).map (Value.float .f32)) ∧ Below wo.heap.size wo wr) (fun _ i _ => n - (intOf i).toNat)
      case atStart => exact ⟨0, Nat.zero_le _, rfl, own_empty _ _ _ (Nat.le_refl _), (Below.refl _ _).alloc (Nat.le_refl _) _⟩
      case round =>
        obtain ⟨k, hk, rfl, ho, hb2⟩ := hrel
        by_cases hlt2 : k < n
        · obtain ⟨b, off, rfl, hbb, hc1⟩ := (hS.below hb2).get k (by omega)
          have hz := hb2.size
          have hzl := HW.out (l[k]'(by omega)) (List.getElem_mem _)
          have hst : (((l.take k).flatMap lossStep).map (Value.float .f32)) ++ [Value.float .f32 (vop .sub (vop .add (l[k]'(by omega)) (l[k]'(by omega))) (vop .mul (l[k]'(by omega)) (l[k]'(by omega)))), Value.float .f32 (vop .mul (l[k]'(by omega)) (l[k]'(by omega)))] = ((l.take (k+1)).flatMap lossStep).map (Value.float .f32) := by
            rw [List.take_succ_eq_append_getElem (by omega), List.flatMap_append, List.map_append]; rfl
          have hlen : (((l.take k).flatMap lossStep).map (Value.float .f32)).length + 2 ≤ 1099511627776 := by
            rw [List.length_map, flatMap_len, List.length_take]; omega
          obtain ⟨z, hzz⟩ : ∃ z, l[k]'(by omega) = z := ⟨_, rfl⟩
          rw [hzz] at hzl hst hc1
          obtain ⟨⟨r1, h1⟩, ⟨r2, h2⟩, ⟨r3, h3⟩, _, _⟩ := step_low HV.out.1 (by have := HV.out.2.2 (by omega); omega) hzl
          have f1 := fres_vop h1
          have f2 := fres_vop h2
          have f3 := fres_vop h3
          have HT := Lib.hid hst
          clear hst hzz hzl h1 h2 h3
          go_wp2_with (at_builtin; go_must (refine appN Try.underlying30 infoFloat32 rfl (by decide) rfl _ _ rfl _ _ _ rfl (own_dalloc ho _) wr.heap.size 2 _ [_, _] rfl rfl (cells2d _ _ _ _ _) (by simp; exact ⟨rfl, rfl⟩) hlen (by simp; omega) ?_); intro v' w1 ho1 hb1)
          go_roundw
          case rel =>
            refine ⟨k + 1, by omega, by go_num, ?_, ((below_drewN hb2 _).alloc hz _).trans hb1⟩
            rw [← HT.out]
            exact ho1
          case measure => simp [intOf]; omega
        · have : k = n := by omega
          subst this
          have hz := hb2.size
          go_wp2
          go_roundw
          case rel =>
            refine ⟨j + 1, by omega, by go_num, ?_, hb.trans (hb2.mono hb.size)⟩
            rw [HX.out]
            rw [List.take_of_length_le (by omega)] at ho
            exact own_base ho hb.size
          case measure => simp [intOf]; omega
    · have : j = P := by omega
      subst this
      go_wp2
      go_ret
      refine ⟨_, rfl, ?_, hb⟩
      have h := HO.out
      rw [List.length_map, hl] at h
      rw [hl]
      exact h

set_option maxRecDepth 100000 in
set_option maxHeartbeats 1000000 in
theorem impl_PolarLosses_go (w : World) (P : Nat) (x : Nat) (hP : P ≤ 5) (hsh : shareB x = true) :
    Calls Try.prog 10 #[.int .i64 (P : Int), .float .f32 x] w fun e w' => ∃ v, e = .returned (.tuple #[v, .bool true]) ∧ Ow w' w.heap.size 29 v ((lossIt x P).map (Value.float .f32)) ∧ Below w.heap.size w w' := by
  have hin : inB (P : Int) 0 5 = true := by rw [inB_true]; omega
  have HI := Lib.hid hin
  have HS := Lib.hid hsh
  have hlow := lossIt_low (share_low hsh)
  have HL := Lib.hid hlow
  clear hlow hsh hin
  go_enter Try.func10, Try.ntmps10
  go_wp2_with (first | (go_at_call 31; refine (impl_within_c _ _ _ _).mono ?_; rintro e w' ⟨rfl, rfl⟩; rw [HI.out]) | (go_at_call 32; refine (impl_isShare_c _ _).mono ?_; rintro e w' ⟨rfl, rfl⟩; rw [HS.out]))
  have ho0 : Ow (w.alloc (.cells #[Value.float .f32 x] 29)) w.heap.size 29 (.slice (some ⟨w.heap.size, 0, none⟩) 1 1) ((lossIt x 0).map (Value.float .f32)) :=
    World.ownsRow_lit (e := 29) (size := 1) w #[Value.float .f32 x] 1 (Nat.le_refl _) (by unfold maxLen; omega) rfl
  have hb0 := (Below.refl w.heap.size w).alloc (Nat.le_refl _) (.cells #[Value.float .f32 x] 29)
  go_loopw [6, 22] (fun v t wr => ∃ j : Nat, j ≤ P ∧ t = .int .i64 (j : Int) ∧ Ow wr w.heap.size 29 v ((lossIt x j).map (Value.float .f32)) ∧ Below w.heap.size w wr) (fun _ t _ => P - (intOf t).toNat)
  case atStart => exact ⟨0, Nat.zero_le _, rfl, ho0, hb0⟩
  case round =>
    clear ho0 hb0
    obtain ⟨j, hj, rfl, ho, hb⟩ := hrel
    obtain ⟨A, cap, rfl, _, hS⟩ := ho.sl
    have HO := Lib.hid ho
    clear ho
    have hlen := lossIt_len x j
    have hp32 : 2 ^ j ≤ 2 ^ 5 := Nat.pow_le_pow_right (by omega) (by omega)
    have hlow := HL.out j (by omega)
    have hlv := lv_bd j (by omega)
    have hnx : lossIt x (j + 1) = (lossIt x j).flatMap lossStep := rfl
    obtain ⟨l, hl⟩ : ∃ l, lossIt x j = l := ⟨_, rfl⟩
    rw [hl] at hS hlen hlow hnx ⊢
    rw [← hlen] at hp32
    have HX := Lib.hid hnx
    have HW := Lib.hid hlow
    have HV := Lib.hid hlv
    rw [List.length_map]
    clear hnx hlow hlv hlen
    by_cases hlt : j < P
    · go_wp2
      obtain ⟨n, hn⟩ : ∃ n, l.length = n := ⟨_, rfl⟩
      rw [hn] at hp32 ⊢
      obtain ⟨wo, rfl⟩ : ∃ wo : World, wo = wr := ⟨_, rfl⟩
      go_loopw [7, 27] (fun v i wr => ∃ k : Nat, k ≤ n ∧ i = .int .i64 k ∧ Ow wr wo.heap.size 29 v (((l.take k).flatMap lossStep).map (Value.float .f32)) ∧ Below wo.heap.size wo wr) (fun _ i _ => n - (intOf i).toNat)
      case atStart => exact ⟨0, Nat.zero_le _, rfl, own_empty _ _ _ (Nat.le_refl _), (Below.refl _ _).alloc (Nat.le_refl _) _⟩
      case round =>
        obtain ⟨k, hk, rfl, ho, hb2⟩ := hrel
        by_cases hlt2 : k < n
        · obtain ⟨b, off, rfl, hbb, hc1⟩ := (hS.below hb2).get k (by omega)
          have hz := hb2.size
          have hzl := HW.out (l[k]'(by omega)) (List.getElem_mem _)
          have hst : (((l.take k).flatMap lossStep).map (Value.float .f32)) ++ [Value.float .f32 (vop .sub (vop .add (l[k]'(by omega)) (l[k]'(by omega))) (vop .mul (l[k]'(by omega)) (l[k]'(by omega)))), Value.float .f32 (vop .mul (l[k]'(by omega)) (l[k]'(by omega)))] = ((l.take (k+1)).flatMap lossStep).map (Value.float .f32) := by
            rw [List.take_succ_eq_append_getElem (by omega), List.flatMap_append, List.map_append]; rfl
          have hlen : (((l.take k).flatMap lossStep).map (Value.float .f32)).length + 2 ≤ 1099511627776 := by
            rw [List.length_map, flatMap_len, List.length_take]; omega
          obtain ⟨z, hzz⟩ : ∃ z, l[k]'(by omega) = z := ⟨_, rfl⟩
          rw [hzz] at hzl hst hc1
          obtain ⟨⟨r1, h1⟩, ⟨r2, h2⟩, ⟨r3, h3⟩, _, _⟩ := step_low HV.out.1 (by have := HV.out.2.2 (by omega); omega) hzl
          have f1 := fres_vop h1
          have f2 := fres_vop h2
          have f3 := fres_vop h3
          have HT := Lib.hid hst
          clear hst hzz hzl h1 h2 h3
          go_wp2_with (at_builtin; go_must (refine appN Try.underlying30 infoFloat32 rfl (by decide) rfl _ _ rfl _ _ _ rfl (own_dalloc ho _) wr.heap.size 2 _ [_, _] rfl rfl (cells2d _ _ _ _ _) (by simp; exact ⟨rfl, rfl⟩) hlen (by simp; omega) ?_); intro v' w1 ho1 hb1)
          go_roundw
          case rel =>
            refine ⟨k + 1, by omega, by go_num, ?_, ((below_drewN hb2 _).alloc hz _).trans hb1⟩
            rw [← HT.out]
            exact ho1
          case measure => simp [intOf]; omega
        · have : k = n := by omega
          subst this
          have hz := hb2.size
          go_wp2
          go_roundw
          case rel =>
            refine ⟨j + 1, by omega, by go_num, ?_, hb.trans (hb2.mono hb.size)⟩
            rw [HX.out]
            rw [List.take_of_length_le (by omega)] at ho
            exact own_base ho hb.size
          case measure => simp [intOf]; omega
    · have : j = P := by omega
      subst this
      have hfin : (l.all fun x => finB (fl .f32 x)) = true := by
        rw [List.all_eq_true]
        intro z hz
        exact low_fin (by have := HV.out.2.1; omega) (HW.out z hz)
      have HF := Lib.hid hfin
      clear hfin
      go_wp2_with (go_at_call 33; refine (impl_areFinite_c _ _ A _ _ l rfl (by omega) hS).mono ?_; rintro e w' ⟨rfl, q, rfl⟩; rw [HF.out])
      go_ret2
      refine ⟨_, rfl, ?_, below_drewN hb _⟩
      have h := HO.out
      rw [List.length_map, hl] at h
      rw [hl]
      exact h


def lossOk (p : Int) (x : Nat) : Bool := inB p 0 5 && shareB x
def lossL (p : Int) (x : Nat) : List Nat := if lossOk p x then lossIt x p.toNat else []
theorem lossL_len (p : Int) (x : Nat) : (lossL p x).length ≤ 32 := by
  unfold lossL lossOk
  split
  · rename_i h
    rw [Bool.and_eq_true, inB_true] at h
    rw [lossIt_len]
    have : p.toNat ≤ 5 := by omega
    exact Nat.le_trans (Nat.pow_le_pow_right (by omega) this) (by decide)
  · simp

set_option maxRecDepth 100000 in
theorem spec_l07Polar_c (w : World) (p : Int) (x : Nat) : Calls Try.prog 55 #[.int .i64 p, .float .f32 x] w fun e w' => e = .returned (.bool (lossOk p x)) ∧ w = w' := by
  unfold lossOk
  cases hi : inB p 0 5
  all_goals
    have HI := Lib.hid hi
    clear hi
    go_enter Try.func55, Try.ntmps55
    go_wp2_with (first | (go_at_call 43; refine (spec_l00In_c _ _ _ _).mono ?_; rintro e w' ⟨rfl, rfl⟩; rw [HI.out]) | (go_at_call 76; refine (spec_l02Share_c _ _).mono ?_; rintro e w' ⟨rfl, rfl⟩))
    go_ret
    exact ⟨rfl, rfl⟩

set_option maxRecDepth 100000 in
theorem impl_PolarLosses_c (w : World) (p : Int) (x : Nat) : Calls Try.prog 10 #[.int .i64 p, .float .f32 x] w fun e w' => ∃ v, e = .returned (.tuple #[v, .bool (lossOk p x)]) ∧ Ow w' w.heap.size 29 v ((lossL p x).map (Value.float .f32)) ∧ Below w.heap.size w w' := by
  cases hi : inB p 0 5
  · have h : lossOk p x = false := by unfold lossOk; rw [hi]; rfl
    have e1 : lossL p x = [] := by unfold lossL; rw [h]; rfl
    rw [e1, h]
    have HI := Lib.hid hi
    clear e1 h hi
    go_enter Try.func10, Try.ntmps10
    go_wp2_with (go_at_call 31; refine (impl_within_c _ _ _ _).mono ?_; rintro e w' ⟨rfl, rfl⟩; rw [HI.out])
    go_ret2
    exact ⟨_, rfl, World.ownsRow_nil _ _ _ _, Below.refl _ _⟩
  · cases hs : shareB x
    · have h : lossOk p x = false := by unfold lossOk; rw [hi, hs]; rfl
      have e1 : lossL p x = [] := by unfold lossL; rw [h]; rfl
      rw [e1, h]
      have HI := Lib.hid hi
      have HS := Lib.hid hs
      clear e1 h hi hs
      go_enter Try.func10, Try.ntmps10
      go_wp2_with (first | (go_at_call 31; refine (impl_within_c _ _ _ _).mono ?_; rintro e w' ⟨rfl, rfl⟩; rw [HI.out]) | (go_at_call 32; refine (impl_isShare_c _ _).mono ?_; rintro e w' ⟨rfl, rfl⟩; rw [HS.out]))
      go_ret2
      exact ⟨_, rfl, World.ownsRow_nil _ _ _ _, Below.refl _ _⟩
    · have h : lossOk p x = true := by unfold lossOk; rw [hi, hs]; rfl
      have e1 : lossL p x = lossIt x p.toNat := by unfold lossL; rw [h]; rfl
      rw [e1, h]
      rw [inB_true] at hi
      obtain ⟨P, rfl⟩ : ∃ P : Nat, p = P := ⟨p.toNat, by omega⟩
      exact impl_PolarLosses_go w P x (by omega) hs

end Go.Proofs.Ytlcdcicdlfakgaa
