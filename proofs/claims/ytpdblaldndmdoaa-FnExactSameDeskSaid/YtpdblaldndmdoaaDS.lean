/-
  Contracts: numbers that are the same, and desks that are the same.
  Conditions: words of 32 bits; lengths at most 1048576.
-/
import Derived.Test.YtpdblaldndmdoaaSD
import Derived.Laws.Externs
namespace Go.Proofs.Ytpdblaldndmdoaa
open Go.RowKit

/-! ### words that stand for the same -/
theorem read_num {x : Nat} {s : Bool} {m : Nat} {i : Int} (h : Ieee.single.read x = .number s m i) :
    ∃ p : Nat, i = Ieee.single.leastPlace + p ∧ x % 2147483648 = p * 8388608 + m ∧ m < 16777216 ∧ (1 ≤ p → 8388608 ≤ m) ∧ s = (x / 2147483648 % 2 == 1) := by
  unfold Ieee.Format.read at h
  dsimp only at h
  rw [sw32, bi32, ir32] at h
  split at h
  · rename_i h1
    cases h
    exact ⟨0, by simp, by omega, by omega, by omega, rfl⟩
  · split at h
    · rename_i h1 h2
      cases h
      refine ⟨x % 2147483648 / 8388608 - 1, by simp, ?_, by omega, by omega, rfl⟩
      omega
    · split at h <;> cases h
theorem read_inf {x : Nat} {s : Bool} (h : Ieee.single.read x = .infinity s) : x % 2147483648 = 2139095040 ∧ s = (x / 2147483648 % 2 == 1) := by
  unfold Ieee.Format.read at h
  dsimp only at h
  rw [sw32, bi32, ir32] at h
  split at h
  · cases h
  · split at h
    · cases h
    · split at h
      · rename_i h3
        cases h
        exact ⟨h3, rfl⟩
      · cases h
def sgn (x : Nat) : Bool := x / 2147483648 % 2 == 1
theorem word_ext {x y : Nat} (hx : x < 4294967296) (hy : y < 4294967296) (hr : x % 2147483648 = y % 2147483648) (hs : sgn x = sgn y) : x = y := by
  unfold sgn at hs
  have h1 : x / 2147483648 < 2 := by omega
  have h2 : y / 2147483648 < 2 := by omega
  have h3 : x / 2147483648 = y / 2147483648 := by
    have h4 : x / 2147483648 = 0 ∨ x / 2147483648 = 1 := by omega
    have h5 : y / 2147483648 = 0 ∨ y / 2147483648 = 1 := by omega
    rcases h4 with h4 | h4 <;> rcases h5 with h5 | h5 <;> rw [h4, h5] at hs ⊢ <;> simp at hs
  omega
theorem signed_inj {s : Bool} {m n a c : Nat} (h : Ieee.signed s m a = Ieee.signed s n c) : m * 2 ^ a = n * 2 ^ c := by
  unfold Ieee.signed at h
  rw [Nat.shiftLeft_eq, Nat.shiftLeft_eq] at h
  cases s <;> simp only [Bool.false_eq_true, if_false, if_true] at h <;> omega
theorem order_eq {x y : Nat} (hx : x < 4294967296) (hy : y < 4294967296) (nx : nanB .f32 x = false) (ny : nanB .f32 y = false) (hs : sgn x = sgn y) (h : FloatKind.f32.format.order x y = some .eq) : x = y := by
  unfold nanB at nx ny
  change (Ieee.single.read x).isNaN = false at nx
  change (Ieee.single.read y).isNaN = false at ny
  change (Ieee.single.read x).order (Ieee.single.read y) = some .eq at h
  cases ex : Ieee.single.read x with
  | nan s t => rw [ex] at nx; simp [Ieee.Datum.isNaN] at nx
  | infinity s =>
    cases ey : Ieee.single.read y with
    | nan s t => rw [ey] at ny; simp [Ieee.Datum.isNaN] at ny
    | infinity t => exact word_ext hx hy ((read_inf ex).1.trans (read_inf ey).1.symm) hs
    | number t n j => rw [ex, ey] at h; simp [Ieee.Datum.order] at h; split at h <;> cases h
  | number s m i =>
    cases ey : Ieee.single.read y with
    | nan s t => rw [ey] at ny; simp [Ieee.Datum.isNaN] at ny
    | infinity t => rw [ex, ey] at h; simp [Ieee.Datum.order] at h; split at h <;> cases h
    | number t n j =>
      rw [ex, ey] at h
      obtain ⟨p, h1, h2, h3, h4, h5⟩ := read_num ex
      obtain ⟨q, g1, g2, g3, g4, g5⟩ := read_num ey
      have hst : s = t := by rw [h5, g5]; exact hs
      subst hst
      unfold Ieee.Datum.order at h
      simp only [Option.some.injEq] at h
      have h6 := Int.compare_eq_eq.1 h
      have h7 := signed_inj h6
      subst h1
      subst g1
      refine word_ext hx hy ?_ hs
      rcases Nat.le_total p q with hpq | hpq
      · have e1 : (Ieee.single.leastPlace + (p : Int) - min (Ieee.single.leastPlace + (p : Int)) (Ieee.single.leastPlace + (q : Int))).toNat = 0 := by omega
        have e2 : (Ieee.single.leastPlace + (q : Int) - min (Ieee.single.leastPlace + (p : Int)) (Ieee.single.leastPlace + (q : Int))).toNat = q - p := by omega
        rw [e1, e2, Nat.pow_zero, Nat.mul_one] at h7
        have hqp : q = p := by
          by_cases hlt : p < q
          · have h8 : 8388608 ≤ n := g4 (by omega)
            have h9 : 2 ^ 1 ≤ 2 ^ (q - p) := Nat.pow_le_pow_right (by omega) (by omega)
            have h10 : 8388608 * 2 ≤ n * 2 ^ (q - p) := Nat.mul_le_mul h8 h9
            omega
          · omega
        subst hqp
        rw [Nat.sub_self, Nat.pow_zero, Nat.mul_one] at h7
        omega
      · have e1 : (Ieee.single.leastPlace + (p : Int) - min (Ieee.single.leastPlace + (p : Int)) (Ieee.single.leastPlace + (q : Int))).toNat = p - q := by omega
        have e2 : (Ieee.single.leastPlace + (q : Int) - min (Ieee.single.leastPlace + (p : Int)) (Ieee.single.leastPlace + (q : Int))).toNat = 0 := by omega
        rw [e1, e2, Nat.pow_zero, Nat.mul_one] at h7
        have hqp : q = p := by
          by_cases hlt : q < p
          · have h8 : 8388608 ≤ m := h4 (by omega)
            have h9 : 2 ^ 1 ≤ 2 ^ (p - q) := Nat.pow_le_pow_right (by omega) (by omega)
            have h10 : 8388608 * 2 ≤ m * 2 ^ (p - q) := Nat.mul_le_mul h8 h9
            omega
          · omega
        subst hqp
        rw [Nat.sub_self, Nat.pow_zero, Nat.mul_one] at h7
        omega
theorem word_sign {f : Ieee.Format} (s : Bool) (r : Nat) (h : r < f.signWeight) : decide (f.signWeight ≤ f.word s r) = s ∧ f.word s r < 2 * f.signWeight := by
  unfold Ieee.Format.word
  cases s
  · simp; omega
  · simp; omega
theorem widen_sign {x r : Nat} (nx : nanB .f32 x = false) (h : floatToFloatBits .f32 x .f64 = some r) : decide (9223372036854775808 ≤ r) = sgn x ∧ r < 18446744073709551616 := by
  unfold nanB at nx
  have hd : FloatKind.f32.decode x = Ieee.single.read x := rfl
  have hi := Ieee.double.infRung_lt
  unfold floatToFloatBits at h
  rw [if_neg (by decide), hd] at h
  have key : ∀ s k, k < Ieee.double.signWeight → Ieee.double.word s k = r → s = sgn x → decide (9223372036854775808 ≤ r) = sgn x ∧ r < 18446744073709551616 := by
    intro s k hk hr hs
    have := word_sign (f := Ieee.double) s k hk
    rw [hr, sw64, hs] at this
    exact ⟨this.1, by omega⟩
  cases ex : Ieee.single.read x with
  | nan s t => change (Ieee.single.read x).isNaN = false at nx; rw [ex] at nx; simp [Ieee.Datum.isNaN] at nx
  | infinity s =>
    rw [ex] at h
    simp only [Option.some.injEq] at h
    exact key s _ hi h (read_inf ex).2
  | number s m e =>
    rw [ex] at h
    simp only at h
    split at h
    · cases h
    · simp only [Option.some.injEq] at h
      obtain ⟨p, _, _, _, _, hs⟩ := read_num ex
      change Ieee.double.nearest s m e = r at h
      unfold Ieee.Format.nearest at h
      dsimp only at h
      split at h
      · exact key s 0 (by rw [sw64]; omega) h hs
      · exact key s _ (Nat.lt_of_le_of_lt (Nat.min_le_right ..) hi) h hs

def canB (x : Nat) : Nat := if nanB .f32 x then 2143289344 else x
def sameW (x y : Nat) : Bool := canB x == canB y
theorem can_nan {x : Nat} (h : nanB .f32 x = true) : canB x = 2143289344 := by unfold canB; rw [h]; rfl
theorem can_nn {x : Nat} (h : nanB .f32 x = false) : canB x = x := by unfold canB; rw [h]; rfl
theorem nan_const : nanB .f32 2143289344 = true := by decide +kernel

set_option maxRecDepth 100000 in
theorem run_f64bits (b : Nat) (w : World) : (callFunc 138 #[.float .f64 b]).run Try.prog w = .ok (.value (.int .u64 (b : Int))) w :=
  (run_callFunc_extern (e := Extern.MathFloatBits.float64bits) Try.func138 (by kernel_rfl) (by kernel_rfl) (by kernel_rfl) (by kernel_rfl) _ w).trans rfl
set_option maxRecDepth 100000 in
theorem run_f32bits (b : Nat) (w : World) : (callFunc 144 #[.float .f32 b]).run Try.prog w = .ok (.value (.int .u32 (b : Int))) w :=
  (run_callFunc_extern (e := Extern.MathFloatBits.float32bits) Try.func144 (by kernel_rfl) (by kernel_rfl) (by kernel_rfl) (by kernel_rfl) _ w).trans rfl
set_option maxRecDepth 100000 in
theorem Signbit_c (w : World) (b : Nat) (hb : b < 18446744073709551616) : Calls Try.prog 128 #[.float .f64 b] w fun e w' => e = .returned (.bool (decide (9223372036854775808 ≤ b))) ∧ w = w' := by
  have hfb := run_f64bits b
  by_cases h : 9223372036854775808 ≤ b
  · have h1 : IntKind.i64.wrap (b : Int) = (b : Int) - 18446744073709551616 := by unfold IntKind.wrap; simp [IntKind.bits, IntKind.signed]; omega
    rw [decide_eq_true h]
    go_enter Try.func128, Try.ntmps128
    go_wp2
    go_ret
    exact ⟨ret_bool (by first | (simp; done) | (simp; omega)), rfl⟩
  · have h1 : IntKind.i64.wrap (b : Int) = (b : Int) := IntWalk.i64_in _ (by omega)
    rw [decide_eq_false h]
    go_enter Try.func128, Try.ntmps128
    go_wp2
    go_ret
    exact ⟨ret_bool (by first | (simp; done) | (simp; omega)), rfl⟩

set_option maxRecDepth 100000 in
theorem spec_l01Bits_c (w : World) (x : Nat) (hx : x < 4294967296) : Calls Try.prog 137 #[.float .f32 x] w fun e w' => e = .returned (.int .i64 (canB x : Int)) ∧ w = w' := by
  cases h : nanB .f32 x
  · have ho := order_self .f32 x h
    rw [can_nn h]
    have hfb := run_f32bits x
    have hw : IntKind.i64.wrap (x : Int) = (x : Int) := IntWalk.i64_in _ (by omega)
    clear h
    go_enter Try.func137, Try.ntmps137
    go_wp2
    go_ret
    exact ⟨rfl, rfl⟩
  · have ho := order_nan .f32 x x h
    rw [can_nan h]
    clear h
    go_enter Try.func137, Try.ntmps137
    go_wp2
    go_ret
    exact ⟨rfl, rfl⟩
theorem cast_beq (a b : Nat) : ((a : Int) == (b : Int)) = (a == b) := by
  rw [Bool.eq_iff_iff]
  simp
  omega
set_option maxRecDepth 100000 in
theorem spec_l01Same_c (w : World) (x y : Nat) (hx : x < 4294967296) (hy : y < 4294967296) : Calls Try.prog 127 #[.float .f32 x, .float .f32 y] w fun e w' => e = .returned (.bool (sameW x y)) ∧ w = w' := by
  go_enter Try.func127, Try.ntmps127
  go_wp2_with fail
  refine (spec_l01Bits_c w x hx).mono ?_
  rintro e w' ⟨rfl, rfl⟩
  go_wp2_with fail
  refine (spec_l01Bits_c w y hy).mono ?_
  rintro e w' ⟨rfl, rfl⟩
  go_wp2
  go_ret
  exact ⟨ret_bool (cast_beq _ _), rfl⟩

set_option maxRecDepth 100000 in
set_option maxHeartbeats 1000000 in
theorem impl_SameNumber_c (w : World) (x y : Nat) (hx : x < 4294967296) (hy : y < 4294967296) : Calls Try.prog 102 #[.float .f32 x, .float .f32 y] w fun e w' => e = .returned (.bool (sameW x y)) ∧ ∃ k, w' = w.drewN k := by
  cases nx : nanB .f32 x
  · have ox := order_self .f32 x nx
    cases ny : nanB .f32 y
    · have oy := order_self .f32 y ny
      have hs : sameW x y = (x == y) := by unfold sameW; rw [can_nn nx, can_nn ny]
      rw [hs]
      obtain ⟨r, hr, _⟩ := widen_some x nx
      obtain ⟨q, hq, _⟩ := widen_some y ny
      have sr := widen_sign nx hr
      have sq := widen_sign ny hq
      cases ho : FloatKind.f32.format.order x y == some Ordering.eq
      · have hne : (x == y) = false := by
          rw [beq_eq_false_iff_ne]
          rintro rfl
          rw [ox] at ho
          simp at ho
        rw [hne]
        clear hs nx ny hr hq sr sq
        go_enter Try.func102, Try.ntmps102
        go_wp2
        go_ret
        exact ⟨rfl, 0, rfl⟩
      · have heq : (sgn x == sgn y) = (x == y) := by
          rw [Bool.eq_iff_iff]
          constructor
          · intro h
            exact beq_iff_eq.2 (order_eq hx hy nx ny (beq_iff_eq.1 h) (by simpa using ho))
          · intro h
            rw [beq_iff_eq] at h
            subst h
            simp
        have HEQ := Lib.hid heq
        have SR := Lib.hid sr
        have SQ := Lib.hid sq
        clear hs heq nx ny sr sq
        go_enter Try.func102, Try.ntmps102
        have ex : ∀ t d, fcv .f32 x .f64 t d = r := fun t d => by unfold fcv; rw [hr]
        have ey : ∀ t d, fcv .f32 y .f64 t d = q := fun t d => by unfold fcv; rw [hq]
        have dx : fcvd .f32 x .f64 = 0 := by unfold fcvd; rw [hr]
        have dy : fcvd .f32 y .f64 = 0 := by unfold fcvd; rw [hq]
        go_wp2_with fail
        refine (Signbit_c _ r SR.out.2).mono ?_
        rintro e w' ⟨rfl, rfl⟩
        go_wp2_with fail
        refine (Signbit_c _ q SQ.out.2).mono ?_
        rintro e w' ⟨rfl, rfl⟩
        rw [SR.out.1, SQ.out.1]
        go_wp2
        go_ret
        exact ⟨ret_bool HEQ.out, _, rfl⟩
    · have oy := order_nan .f32 y y ny
      have hs : sameW x y = false := by
        unfold sameW
        rw [can_nn nx, can_nan ny, beq_eq_false_iff_ne]
        rintro rfl
        rw [nan_const] at nx
        cases nx
      rw [hs]
      clear hs nx ny
      go_enter Try.func102, Try.ntmps102
      go_wp2
      go_ret
      exact ⟨rfl, 0, rfl⟩
  · have ox := order_nan .f32 x x nx
    cases ny : nanB .f32 y
    · have oy := order_self .f32 y ny
      have hs : sameW x y = false := by
        unfold sameW
        rw [can_nan nx, can_nn ny, beq_eq_false_iff_ne]
        rintro rfl
        rw [nan_const] at ny
        cases ny
      rw [hs]
      clear hs nx ny
      go_enter Try.func102, Try.ntmps102
      go_wp2
      go_ret
      exact ⟨rfl, 0, rfl⟩
    · have oy := order_nan .f32 y y ny
      have hs : sameW x y = true := by unfold sameW; rw [can_nan nx, can_nan ny]; rfl
      rw [hs]
      clear hs nx ny
      go_enter Try.func102, Try.ntmps102
      go_wp2
      go_ret
      exact ⟨rfl, 0, rfl⟩

def sameL (xs ys : List Nat) : Bool := xs.map canB == ys.map canB
theorem sl_ne {xs ys : List Nat} {i : Nat} (h1 : i < xs.length) (h2 : i < ys.length) (h : canB xs[i] ≠ canB ys[i]) : sameL xs ys = false := by
  unfold sameL
  rw [beq_eq_false_iff_ne]
  intro he
  apply h
  have h3 := congrArg (fun l => l[i]?) he
  simpa [h1, h2] using h3
theorem sl_eq {xs ys : List Nat} (hl : xs.length = ys.length) (h : ∀ i (h1 : i < xs.length) (h2 : i < ys.length), canB xs[i] = canB ys[i]) : sameL xs ys = true := by
  unfold sameL
  rw [beq_iff_eq]
  exact List.ext_getElem (by simpa using hl) (fun i h1 h2 => by simpa using h i (by simpa using h1) (by simpa using h2))
theorem sl_len {xs ys : List Nat} (h : xs.length ≠ ys.length) : sameL xs ys = false := by
  unfold sameL
  rw [beq_eq_false_iff_ne]
  intro he
  exact h (by simpa using congrArg List.length he)
def eqL (xs ys : List Int) : Bool := xs == ys
theorem el_ne {xs ys : List Int} {i : Nat} (h1 : i < xs.length) (h2 : i < ys.length) (h : xs[i] ≠ ys[i]) : eqL xs ys = false := same_ne h1 h2 h
theorem el_eq {xs ys : List Int} (hl : xs.length = ys.length) (h : ∀ i (h1 : i < xs.length) (h2 : i < ys.length), xs[i] = ys[i]) : eqL xs ys = true := same_eq hl h
theorem el_len {xs ys : List Int} (h : xs.length ≠ ys.length) : eqL xs ys = false := same_len h

set_option maxRecDepth 100000 in
set_option maxHeartbeats 1000000 in
theorem EqualFunc_f32_c (w : World) (B : Nat) (A A2 : Option Addr) (n cap n2 cap2 : Nat) (xs ys : List Nat) (hl : xs.length = n) (hl2 : ys.length = n2) (hn : n ≤ 1048576) (hn2 : n2 ≤ 1048576) (hx : Sl w B A (xs.map (Value.float .f32))) (hy : Sl w B A2 (ys.map (Value.float .f32))) (fx : ∀ x ∈ xs, x < 4294967296) (fy : ∀ y ∈ ys, y < 4294967296) :
    Calls Try.prog 101 #[.slice A n cap, .slice A2 n2 cap2, .func (.func 102) #[] #[]] w fun e w' => e = .returned (.bool (sameL xs ys)) ∧ ∃ m, w' = w.drewN m := by
  have hent := Try.call102
  by_cases hne : n = n2
  · subst hne
    have he : ((n : Int) == (n : Int)) = true := by simp
    go_enter Try.func101, Try.ntmps101
    go_wp2
    go_loopw [17] (fun i wr => ∃ k m : Nat, k ≤ n ∧ i = .int .i64 k ∧ (∀ j (h1 : j < xs.length) (h2 : j < ys.length), j < k → canB xs[j] = canB ys[j]) ∧ wr = w.drewN m) (fun i _ => n - (intOf i).toNat)
    case atStart => exact ⟨0, 0, Nat.zero_le _, rfl, fun j _ _ hj => by omega, rfl⟩
    case round =>
      obtain ⟨k, m, hk, rfl, hp, rfl⟩ := hrel
      have HP := Lib.hid hp
      clear hp
      by_cases hlt : k < n
      · obtain ⟨b, off, rfl, hbb, hc1⟩ := hx.get k (by omega)
        obtain ⟨b2, off2, rfl, hbb2, hc2⟩ := hy.get k (by omega)
        have hk1 : k < xs.length := by omega
        have hk2 : k < ys.length := by omega
        have bx := fx _ (List.getElem_mem hk1)
        have by_ := fy _ (List.getElem_mem hk2)
        obtain ⟨x, hxx⟩ : ∃ x, xs[k]'hk1 = x := ⟨_, rfl⟩
        obtain ⟨y, hyy⟩ : ∃ y, ys[k]'hk2 = y := ⟨_, rfl⟩
        rw [hxx] at hc1 bx
        rw [hyy] at hc2 by_
        have HX := Lib.hid hxx
        have HY := Lib.hid hyy
        clear hx hy hxx hyy
        cases hxy : canB x == canB y
        · have HXY := Lib.hid hxy
          clear hxy
          go_wp2_with fail
          refine (impl_SameNumber_c (w.drewN m) x y bx by_).mono ?_
          rintro e w' ⟨rfl, q, rfl⟩
          unfold sameW
          rw [HXY.out]
          go_wp2
          go_ret
          refine ⟨ret_bool (sl_ne (i := k) hk1 hk2 ?_).symm, _, rfl⟩
          rw [HX.out, HY.out]
          have := HXY.out
          rwa [beq_eq_false_iff_ne] at this
        · have HXY := Lib.hid hxy
          clear hxy
          go_wp2_with fail
          refine (impl_SameNumber_c (w.drewN m) x y bx by_).mono ?_
          rintro e w' ⟨rfl, q, rfl⟩
          unfold sameW
          rw [HXY.out]
          go_wp2
          go_roundw
          case rel =>
            refine ⟨k + 1, _, by omega, by go_num, ?_, rfl⟩
            intro j h1 h2 hj
            by_cases hjk : j = k
            · subst hjk
              rw [HX.out, HY.out]
              exact beq_iff_eq.1 HXY.out
            · exact HP.out j h1 h2 (by omega)
          case measure => simp [intOf]; omega
      · have : k = n := by omega
        subst this
        go_wp2
        go_ret
        exact ⟨ret_bool (sl_eq (by omega) (fun i h1 h2 => HP.out i h1 h2 (by omega))).symm, _, rfl⟩
  · have he : ((n : Int) == (n2 : Int)) = false := by simp; omega
    rw [sl_len (by omega)]
    go_enter Try.func101, Try.ntmps101
    go_wp2
    go_ret
    exact ⟨rfl, 0, rfl⟩

theorem l01Same_at {w : World} {x y q m : Nat} {bb : Bool} (hb : (canB x == canB y) = bb) (hx : x < 4294967296) (hy : y < 4294967296) :
    Calls Try.prog 127 #[.float .f32 x, .float .f32 y] (w.drewN (q + m)) fun e w' => e = .returned (.bool bb) ∧ ∃ k, w' = w.drewN (q + k) := by
  refine (spec_l01Same_c _ x y hx hy).mono ?_
  rintro e w' ⟨rfl, rfl⟩
  exact ⟨by unfold sameW; rw [hb], m, rfl⟩
set_option maxRecDepth 100000 in
set_option maxHeartbeats 1000000 in
theorem spec_l01SameAll_c (w : World) (B : Nat) (A A2 : Option Addr) (n cap n2 cap2 : Nat) (xs ys : List Nat) (hl : xs.length = n) (hl2 : ys.length = n2) (hn : n ≤ 1048576) (hn2 : n2 ≤ 1048576) (hx : Sl w B A (xs.map (Value.float .f32))) (hy : Sl w B A2 (ys.map (Value.float .f32))) (fx : ∀ x ∈ xs, x < 4294967296) (fy : ∀ y ∈ ys, y < 4294967296) :
    Calls Try.prog 96 #[.slice A n cap, .slice A2 n2 cap2] w fun e w' => e = .returned (.bool (sameL xs ys)) ∧ ∃ m, w' = w.drewN m := by
  skip
  by_cases hne : n = n2
  · subst hne
    have he : ((n : Int) == (n : Int)) = true := by simp
    go_enter Try.func96, Try.ntmps96
    go_wp2
    go_loopw [5] (fun i wr => ∃ k m : Nat, k ≤ n ∧ i = .int .i64 k ∧ (∀ j (h1 : j < xs.length) (h2 : j < ys.length), j < k → canB xs[j] = canB ys[j]) ∧ wr = w.drewN m) (fun i _ => n - (intOf i).toNat)
    case atStart => exact ⟨0, 0, Nat.zero_le _, rfl, fun j _ _ hj => by omega, rfl⟩
    case round =>
      obtain ⟨k, m, hk, rfl, hp, rfl⟩ := hrel
      have HP := Lib.hid hp
      clear hp
      by_cases hlt : k < n
      · obtain ⟨b, off, rfl, hbb, hc1⟩ := hx.get k (by omega)
        obtain ⟨b2, off2, rfl, hbb2, hc2⟩ := hy.get k (by omega)
        have hk1 : k < xs.length := by omega
        have hk2 : k < ys.length := by omega
        have bx := fx _ (List.getElem_mem hk1)
        have by_ := fy _ (List.getElem_mem hk2)
        obtain ⟨x, hxx⟩ : ∃ x, xs[k]'hk1 = x := ⟨_, rfl⟩
        obtain ⟨y, hyy⟩ : ∃ y, ys[k]'hk2 = y := ⟨_, rfl⟩
        rw [hxx] at hc1 bx
        rw [hyy] at hc2 by_
        have HX := Lib.hid hxx
        have HY := Lib.hid hyy
        clear hx hy hxx hyy
        cases hxy : canB x == canB y
        · have HXY := Lib.hid hxy
          clear hxy
          go_wp2_with fail
          go_quiet ((go_at_call 127; exact l01Same_at HXY.out bx by_))
          go_wp2
          go_ret
          refine ⟨ret_bool (sl_ne (i := k) hk1 hk2 ?_).symm, _, World.drewN_drewN _ _ _⟩
          rw [HX.out, HY.out]
          have := HXY.out
          rwa [beq_eq_false_iff_ne] at this
        · have HXY := Lib.hid hxy
          clear hxy
          go_wp2_with fail
          go_quiet ((go_at_call 127; exact l01Same_at HXY.out bx by_))
          go_wp2
          go_roundw
          case rel =>
            refine ⟨k + 1, _, by omega, by go_num, ?_, rfl⟩
            intro j h1 h2 hj
            by_cases hjk : j = k
            · subst hjk
              rw [HX.out, HY.out]
              exact beq_iff_eq.1 HXY.out
            · exact HP.out j h1 h2 (by omega)
          case measure => simp [intOf]; omega
      · have : k = n := by omega
        subst this
        go_wp2
        go_ret
        exact ⟨ret_bool (sl_eq (by omega) (fun i h1 h2 => HP.out i h1 h2 (by omega))).symm, _, rfl⟩
  · have he : ((n : Int) == (n2 : Int)) = false := by simp; omega
    rw [sl_len (by omega)]
    go_enter Try.func96, Try.ntmps96
    go_wp2
    go_ret
    exact ⟨rfl, 0, rfl⟩

set_option maxRecDepth 100000 in
set_option maxHeartbeats 1000000 in
theorem spec_l04Equal_c (w : World) (B : Nat) (A A2 : Option Addr) (n cap n2 cap2 : Nat) (xs ys : List Int) (hl : xs.length = n) (hl2 : ys.length = n2) (hn : n ≤ 1048576) (hn2 : n2 ≤ 1048576) (hx : Sl w B A (xs.map (Value.int .i64))) (hy : Sl w B A2 (ys.map (Value.int .i64)))  :
    Calls Try.prog 97 #[.slice A n cap, .slice A2 n2 cap2] w fun e w' => e = .returned (.bool (eqL xs ys)) ∧ ∃ m, w' = w.drewN m := by
  skip
  by_cases hne : n = n2
  · subst hne
    have he : ((n : Int) == (n : Int)) = true := by simp
    go_enter Try.func97, Try.ntmps97
    go_wp2
    go_loopw [5] (fun i wr => ∃ k m : Nat, k ≤ n ∧ i = .int .i64 k ∧ (∀ j (h1 : j < xs.length) (h2 : j < ys.length), j < k → xs[j] = ys[j]) ∧ wr = w.drewN m) (fun i _ => n - (intOf i).toNat)
    case atStart => exact ⟨0, 0, Nat.zero_le _, rfl, fun j _ _ hj => by omega, rfl⟩
    case round =>
      obtain ⟨k, m, hk, rfl, hp, rfl⟩ := hrel
      have HP := Lib.hid hp
      clear hp
      by_cases hlt : k < n
      · obtain ⟨b, off, rfl, hbb, hc1⟩ := hx.get k (by omega)
        obtain ⟨b2, off2, rfl, hbb2, hc2⟩ := hy.get k (by omega)
        have hk1 : k < xs.length := by omega
        have hk2 : k < ys.length := by omega
        skip
        obtain ⟨x, hxx⟩ : ∃ x, xs[k]'hk1 = x := ⟨_, rfl⟩
        obtain ⟨y, hyy⟩ : ∃ y, ys[k]'hk2 = y := ⟨_, rfl⟩
        rw [hxx] at hc1
        rw [hyy] at hc2
        have HX := Lib.hid hxx
        have HY := Lib.hid hyy
        clear hx hy hxx hyy
        cases hxy : x == y
        · have HXY := Lib.hid hxy
          go_wp2_with fail
          go_quiet (fail)
          go_wp2
          go_ret
          refine ⟨ret_bool (el_ne (i := k) hk1 hk2 ?_).symm, _, World.drewN_drewN _ _ _⟩
          rw [HX.out, HY.out]
          have := HXY.out
          rwa [beq_eq_false_iff_ne] at this
        · have HXY := Lib.hid hxy
          go_wp2_with fail
          go_quiet (fail)
          go_wp2
          go_roundw
          case rel =>
            refine ⟨k + 1, _, by omega, by go_num, ?_, rfl⟩
            intro j h1 h2 hj
            by_cases hjk : j = k
            · subst hjk
              rw [HX.out, HY.out]
              exact beq_iff_eq.1 HXY.out
            · exact HP.out j h1 h2 (by omega)
          case measure => simp [intOf]; omega
      · have : k = n := by omega
        subst this
        go_wp2
        go_ret
        exact ⟨ret_bool (el_eq (by omega) (fun i h1 h2 => HP.out i h1 h2 (by omega))).symm, _, rfl⟩
  · have he : ((n : Int) == (n2 : Int)) = false := by simp; omega
    rw [el_len (by omega)]
    go_enter Try.func97, Try.ntmps97
    go_wp2
    go_ret
    exact ⟨rfl, 0, rfl⟩

set_option maxRecDepth 100000 in
theorem impl_SameCode_c (w : World) (A A2 : Option Addr) (n cap n2 cap2 : Nat) (xs ys : List Int) (hl : xs.length = n) (hl2 : ys.length = n2) (hn : n ≤ 1048576) (hn2 : n2 ≤ 1048576) (hx : Sl w w.heap.size A (xs.map (Value.int .i64))) (hy : Sl w w.heap.size A2 (ys.map (Value.int .i64))) :
    Calls Try.prog 103 #[.agg #[.slice A n cap], .agg #[.slice A2 n2 cap2]] w fun e w' => e = .returned (.bool (eqL xs ys)) ∧ Below w.heap.size w w' := by
  go_enter Try.func103, Try.ntmps103
  go_wp2_with (go_at_call 56; refine (Equal_i64_c _ _ A A2 n cap n2 cap2 xs ys hl hl2 (by omega) (by omega) ((hx.alloc (Nat.le_refl _) _).alloc (by simp) _) ((hy.alloc (Nat.le_refl _) _).alloc (by simp) _)).mono ?_; rintro e w' ⟨rfl, q, rfl⟩)
  go_ret
  exact ⟨rfl, below_drewN (((Below.refl _ _).alloc (Nat.le_refl _) _).alloc (by simp) _) _⟩

set_option maxRecDepth 100000 in
theorem impl_SameParity_c (w : World) (m m2 : Int) (A A2 : Option Addr) (n cap n2 cap2 : Nat) (xs ys : List Int) (hl : xs.length = n) (hl2 : ys.length = n2) (hn : n ≤ 1048576) (hn2 : n2 ≤ 1048576) (hx : Sl w w.heap.size A (xs.map (Value.int .i64))) (hy : Sl w w.heap.size A2 (ys.map (Value.int .i64))) :
    Calls Try.prog 104 #[.agg #[.int .i64 m, .slice A n cap], .agg #[.int .i64 m2, .slice A2 n2 cap2]] w fun e w' => e = .returned (.bool ((m == m2) && eqL xs ys)) ∧ Below w.heap.size w w' := by
  cases he : m == m2
  all_goals
    go_enter Try.func104, Try.ntmps104
    go_wp2_with (go_at_call 56; refine (Equal_i64_c _ _ A A2 n cap n2 cap2 xs ys hl hl2 (by omega) (by omega) ((hx.alloc (Nat.le_refl _) _).alloc (by simp) _) ((hy.alloc (Nat.le_refl _) _).alloc (by simp) _)).mono ?_; rintro e w' ⟨rfl, q, rfl⟩)
    go_ret
    first
      | exact ⟨rfl, below_drewN (((Below.refl _ _).alloc (Nat.le_refl _) _).alloc (by simp) _) _⟩
      | exact ⟨rfl, ((Below.refl _ _).alloc (Nat.le_refl _) _).alloc (by simp) _⟩

theorem l04Equal_at {w : World} {B : Nat} {A A2 : Option Addr} {n cap n2 cap2 q : Nat} {xs ys : List Int} {bb : Bool} (hb : eqL xs ys = bb) (hl : xs.length = n) (hl2 : ys.length = n2) (hn : n ≤ 1048576) (hn2 : n2 ≤ 1048576) (hx : Sl w B A (xs.map (Value.int .i64))) (hy : Sl w B A2 (ys.map (Value.int .i64))) :
    Calls Try.prog 97 #[.slice A n cap, .slice A2 n2 cap2] (w.drewN q) fun e w' => e = .returned (.bool bb) ∧ ∃ k, w' = w.drewN k := by
  refine (spec_l04Equal_c (w.drewN q) B A A2 n cap n2 cap2 xs ys hl hl2 hn hn2 hx hy).mono ?_
  rintro e w' ⟨rfl, k, rfl⟩
  exact ⟨by rw [hb], q + k, by rw [World.drewN_drewN]⟩
set_option maxRecDepth 100000 in
set_option maxHeartbeats 1000000 in
theorem spec_l06Same_c (w : World) (b b2 o B : Nat) (m m2 : Int) (A A2 : Option Addr) (n cap n2 cap2 : Nat) (xs ys : List Int) (hl : xs.length = n) (hl2 : ys.length = n2) (hn : n ≤ 1048576) (hn2 : n2 ≤ 1048576) (hx : Sl w B A (xs.map (Value.int .i64))) (hy : Sl w B A2 (ys.map (Value.int .i64)))
    (c0 : w.cell? ⟨b, o, none⟩ = some (.int .i64 m)) (c1 : w.cell? ⟨b, o + 1, none⟩ = some (.slice A n cap)) (d0 : w.cell? ⟨b2, o, none⟩ = some (.int .i64 m2)) (d1 : w.cell? ⟨b2, o + 1, none⟩ = some (.slice A2 n2 cap2)) :
    Calls Try.prog 98 #[.pointer (some ⟨b, o, none⟩), .pointer (some ⟨b2, o, none⟩)] w fun e w' => e = .returned (.bool ((m == m2) && eqL xs ys)) ∧ ∃ k, w' = w.drewN k := by
  cases he : m == m2
  · have hne : ¬ m = m2 := by simpa using he
    go_enter Try.func98, Try.ntmps98
    go_wp2_with fail
    go_quiet (fail)
    go_wp2
    go_ret
    exact ⟨rfl, _, rfl⟩
  · obtain rfl : m = m2 := by simpa using he
    cases hb : eqL xs ys
    all_goals
      have HB := Lib.hid hb
      clear hb
      go_enter Try.func98, Try.ntmps98
      go_wp2_with fail
      go_quiet ((go_at_call 97; exact l04Equal_at HB.out hl hl2 hn hn2 hx hy))
      go_wp2
      go_ret
      exact ⟨rfl, _, rfl⟩

def sameDeskB (x0 : List Nat) (x1 : List Int) (a2 : Int) (x3 : List Int) (a4 : ByteArray) (y0 : List Nat) (y1 : List Int) (b2 : Int) (y3 : List Int) (b4 : ByteArray) : Bool := sameL x0 y0 && eqL x1 y1 && ((a2 == b2) && eqL x3 y3) && (a4.toList == b4.toList)
set_option maxRecDepth 100000 in
set_option maxHeartbeats 2000000 in
theorem spec_SameDesk_c (w : World) (A0 : Option Addr) (n0 cap0 : Nat) (x0 : List Nat) (hl0 : x0.length = n0) (hn0 : n0 ≤ 1048576) (hx0 : Sl w w.heap.size A0 (x0.map (Value.float .f32))) (f0 : ∀ x ∈ x0, x < 4294967296) (A1 : Option Addr) (n1 cap1 : Nat) (x1 : List Int) (hl1 : x1.length = n1) (hn1 : n1 ≤ 1048576) (hx1 : Sl w w.heap.size A1 (x1.map (Value.int .i64))) (a2 : Int) (A3 : Option Addr) (n3 cap3 : Nat) (x3 : List Int) (hl3 : x3.length = n3) (hn3 : n3 ≤ 1048576) (hx3 : Sl w w.heap.size A3 (x3.map (Value.int .i64))) (a4 : ByteArray) (_hs4 : a4.size ≤ 1048576) (B0 : Option Addr) (m0 bap0 : Nat) (y0 : List Nat) (kl0 : y0.length = m0) (kn0 : m0 ≤ 1048576) (hy0 : Sl w w.heap.size B0 (y0.map (Value.float .f32))) (g0 : ∀ x ∈ y0, x < 4294967296) (B1 : Option Addr) (m1 bap1 : Nat) (y1 : List Int) (kl1 : y1.length = m1) (kn1 : m1 ≤ 1048576) (hy1 : Sl w w.heap.size B1 (y1.map (Value.int .i64))) (b2 : Int) (B3 : Option Addr) (m3 bap3 : Nat) (y3 : List Int) (kl3 : y3.length = m3) (kn3 : m3 ≤ 1048576) (hy3 : Sl w w.heap.size B3 (y3.map (Value.int .i64))) (b4 : ByteArray) (_ks4 : b4.size ≤ 1048576) :
    Calls Try.prog 48 #[.agg #[.slice A0 n0 cap0, .slice A1 n1 cap1, .int .i64 a2, .slice A3 n3 cap3, .string a4], .agg #[.slice B0 m0 bap0, .slice B1 m1 bap1, .int .i64 b2, .slice B3 m3 bap3, .string b4]] w fun e w' => e = .returned (.bool (sameDeskB x0 x1 a2 x3 a4 y0 y1 b2 y3 b4)) ∧ Below w.heap.size w w' := by
  obtain ⟨w1, e1⟩ : ∃ q : World, q = (w.alloc (.cells #[.slice A0 n0 cap0, .slice A1 n1 cap1, .int .i64 a2, .slice A3 n3 cap3, .string a4] 84)).alloc (.cells #[.slice B0 m0 bap0, .slice B1 m1 bap1, .int .i64 b2, .slice B3 m3 bap3, .string b4] 84) := ⟨_, rfl⟩
  have B1' : Below w.heap.size w w1 := by rw [e1]; exact ((Below.refl _ _).alloc (Nat.le_refl _) _).alloc (by simp) _
  have z1 : w1.heap.size = w.heap.size + 1 + 1 := by rw [e1]; simp
  have c0 : w1.cell? ⟨w.heap.size, 0, none⟩ = some (.slice A0 n0 cap0) := by rw [e1]; (first | (simp; done) | (simp (disch := (first | (simp; done) | (simp; omega))) [World.cell?_alloc_at]; done) | (simp (disch := (first | (simp; done) | (simp; omega))) [World.cell?_alloc_past]; done) | (simp (disch := (first | (simp; done) | (simp; omega))) [World.cell?_alloc_at, World.cell?_alloc_past]; done) | (simp (disch := (first | (simp; done) | (simp; omega))) [World.frozen?_alloc_at]; done) | (simp (disch := (first | (simp; done) | (simp; omega))) [World.frozen?_alloc_past]; done) | (simp (disch := (first | (simp; done) | (simp; omega))) [World.frozen?_alloc_at, World.frozen?_alloc_past]; done))
  have d0 : w1.cell? ⟨w.heap.size + 1, 0, none⟩ = some (.slice B0 m0 bap0) := by rw [e1]; (first | (simp; done) | (simp (disch := (first | (simp; done) | (simp; omega))) [World.cell?_alloc_at]; done) | (simp (disch := (first | (simp; done) | (simp; omega))) [World.cell?_alloc_past]; done) | (simp (disch := (first | (simp; done) | (simp; omega))) [World.cell?_alloc_at, World.cell?_alloc_past]; done) | (simp (disch := (first | (simp; done) | (simp; omega))) [World.frozen?_alloc_at]; done) | (simp (disch := (first | (simp; done) | (simp; omega))) [World.frozen?_alloc_past]; done) | (simp (disch := (first | (simp; done) | (simp; omega))) [World.frozen?_alloc_at, World.frozen?_alloc_past]; done))
  have c1 : w1.cell? ⟨w.heap.size, 1, none⟩ = some (.slice A1 n1 cap1) := by rw [e1]; (first | (simp; done) | (simp (disch := (first | (simp; done) | (simp; omega))) [World.cell?_alloc_at]; done) | (simp (disch := (first | (simp; done) | (simp; omega))) [World.cell?_alloc_past]; done) | (simp (disch := (first | (simp; done) | (simp; omega))) [World.cell?_alloc_at, World.cell?_alloc_past]; done) | (simp (disch := (first | (simp; done) | (simp; omega))) [World.frozen?_alloc_at]; done) | (simp (disch := (first | (simp; done) | (simp; omega))) [World.frozen?_alloc_past]; done) | (simp (disch := (first | (simp; done) | (simp; omega))) [World.frozen?_alloc_at, World.frozen?_alloc_past]; done))
  have d1 : w1.cell? ⟨w.heap.size + 1, 1, none⟩ = some (.slice B1 m1 bap1) := by rw [e1]; (first | (simp; done) | (simp (disch := (first | (simp; done) | (simp; omega))) [World.cell?_alloc_at]; done) | (simp (disch := (first | (simp; done) | (simp; omega))) [World.cell?_alloc_past]; done) | (simp (disch := (first | (simp; done) | (simp; omega))) [World.cell?_alloc_at, World.cell?_alloc_past]; done) | (simp (disch := (first | (simp; done) | (simp; omega))) [World.frozen?_alloc_at]; done) | (simp (disch := (first | (simp; done) | (simp; omega))) [World.frozen?_alloc_past]; done) | (simp (disch := (first | (simp; done) | (simp; omega))) [World.frozen?_alloc_at, World.frozen?_alloc_past]; done))
  have c2 : w1.cell? ⟨w.heap.size, 2, none⟩ = some (.int .i64 a2) := by rw [e1]; (first | (simp; done) | (simp (disch := (first | (simp; done) | (simp; omega))) [World.cell?_alloc_at]; done) | (simp (disch := (first | (simp; done) | (simp; omega))) [World.cell?_alloc_past]; done) | (simp (disch := (first | (simp; done) | (simp; omega))) [World.cell?_alloc_at, World.cell?_alloc_past]; done) | (simp (disch := (first | (simp; done) | (simp; omega))) [World.frozen?_alloc_at]; done) | (simp (disch := (first | (simp; done) | (simp; omega))) [World.frozen?_alloc_past]; done) | (simp (disch := (first | (simp; done) | (simp; omega))) [World.frozen?_alloc_at, World.frozen?_alloc_past]; done))
  have d2 : w1.cell? ⟨w.heap.size + 1, 2, none⟩ = some (.int .i64 b2) := by rw [e1]; (first | (simp; done) | (simp (disch := (first | (simp; done) | (simp; omega))) [World.cell?_alloc_at]; done) | (simp (disch := (first | (simp; done) | (simp; omega))) [World.cell?_alloc_past]; done) | (simp (disch := (first | (simp; done) | (simp; omega))) [World.cell?_alloc_at, World.cell?_alloc_past]; done) | (simp (disch := (first | (simp; done) | (simp; omega))) [World.frozen?_alloc_at]; done) | (simp (disch := (first | (simp; done) | (simp; omega))) [World.frozen?_alloc_past]; done) | (simp (disch := (first | (simp; done) | (simp; omega))) [World.frozen?_alloc_at, World.frozen?_alloc_past]; done))
  have c3 : w1.cell? ⟨w.heap.size, 3, none⟩ = some (.slice A3 n3 cap3) := by rw [e1]; (first | (simp; done) | (simp (disch := (first | (simp; done) | (simp; omega))) [World.cell?_alloc_at]; done) | (simp (disch := (first | (simp; done) | (simp; omega))) [World.cell?_alloc_past]; done) | (simp (disch := (first | (simp; done) | (simp; omega))) [World.cell?_alloc_at, World.cell?_alloc_past]; done) | (simp (disch := (first | (simp; done) | (simp; omega))) [World.frozen?_alloc_at]; done) | (simp (disch := (first | (simp; done) | (simp; omega))) [World.frozen?_alloc_past]; done) | (simp (disch := (first | (simp; done) | (simp; omega))) [World.frozen?_alloc_at, World.frozen?_alloc_past]; done))
  have d3 : w1.cell? ⟨w.heap.size + 1, 3, none⟩ = some (.slice B3 m3 bap3) := by rw [e1]; (first | (simp; done) | (simp (disch := (first | (simp; done) | (simp; omega))) [World.cell?_alloc_at]; done) | (simp (disch := (first | (simp; done) | (simp; omega))) [World.cell?_alloc_past]; done) | (simp (disch := (first | (simp; done) | (simp; omega))) [World.cell?_alloc_at, World.cell?_alloc_past]; done) | (simp (disch := (first | (simp; done) | (simp; omega))) [World.frozen?_alloc_at]; done) | (simp (disch := (first | (simp; done) | (simp; omega))) [World.frozen?_alloc_past]; done) | (simp (disch := (first | (simp; done) | (simp; omega))) [World.frozen?_alloc_at, World.frozen?_alloc_past]; done))
  have c4 : w1.cell? ⟨w.heap.size, 4, none⟩ = some (.string a4) := by rw [e1]; (first | (simp; done) | (simp (disch := (first | (simp; done) | (simp; omega))) [World.cell?_alloc_at]; done) | (simp (disch := (first | (simp; done) | (simp; omega))) [World.cell?_alloc_past]; done) | (simp (disch := (first | (simp; done) | (simp; omega))) [World.cell?_alloc_at, World.cell?_alloc_past]; done) | (simp (disch := (first | (simp; done) | (simp; omega))) [World.frozen?_alloc_at]; done) | (simp (disch := (first | (simp; done) | (simp; omega))) [World.frozen?_alloc_past]; done) | (simp (disch := (first | (simp; done) | (simp; omega))) [World.frozen?_alloc_at, World.frozen?_alloc_past]; done))
  have d4 : w1.cell? ⟨w.heap.size + 1, 4, none⟩ = some (.string b4) := by rw [e1]; (first | (simp; done) | (simp (disch := (first | (simp; done) | (simp; omega))) [World.cell?_alloc_at]; done) | (simp (disch := (first | (simp; done) | (simp; omega))) [World.cell?_alloc_past]; done) | (simp (disch := (first | (simp; done) | (simp; omega))) [World.cell?_alloc_at, World.cell?_alloc_past]; done) | (simp (disch := (first | (simp; done) | (simp; omega))) [World.frozen?_alloc_at]; done) | (simp (disch := (first | (simp; done) | (simp; omega))) [World.frozen?_alloc_past]; done) | (simp (disch := (first | (simp; done) | (simp; omega))) [World.frozen?_alloc_at, World.frozen?_alloc_past]; done))
  have hx0 := (hx0.below B1').more B1'.size
  have hy0 := (hy0.below B1').more B1'.size
  have hx1 := (hx1.below B1').more B1'.size
  have hy1 := (hy1.below B1').more B1'.size
  have hx3 := (hx3.below B1').more B1'.size
  have hy3 := (hy3.below B1').more B1'.size
  unfold sameDeskB
  go_enter Try.func48, Try.ntmps48
  go_wp2_with fail
  rw [← e1]
  clear e1
  refine (spec_l01SameAll_c w1 _ A0 B0 n0 cap0 m0 bap0 x0 y0 hl0 kl0 hn0 kn0 hx0 hy0 f0 g0).mono ?_
  rintro e w2 ⟨rfl, q2, rfl⟩
  cases h0 : sameL x0 y0
  · have H0 := Lib.hid h0
    clear h0
    go_wp2
    go_ret
    exact ⟨ret_bool (by rw [H0.out]; rfl), below_drewN B1' _⟩
  have H0 := Lib.hid h0
  clear h0
  cases h1 : eqL x1 y1
  · have H1 := Lib.hid h1
    clear h1
    go_wp2_with (go_at_call 97; refine (spec_l04Equal_c _ _ A1 B1 n1 cap1 m1 bap1 x1 y1 hl1 kl1 hn1 kn1 (hx1.drewN _) (hy1.drewN _)).mono ?_; rintro e w' ⟨rfl, q3, rfl⟩; rw [H1.out])
    go_ret
    exact ⟨ret_bool (by rw [H0.out, H1.out]; rfl), below_drewN B1' _⟩
  have H1 := Lib.hid h1
  clear h1
  cases h3 : (a2 == b2) && eqL x3 y3
  · have H3 := Lib.hid h3
    clear h3
    go_wp2_with (first
      | (go_at_call 97; refine (spec_l04Equal_c _ _ A1 B1 n1 cap1 m1 bap1 x1 y1 hl1 kl1 hn1 kn1 (hx1.drewN _) (hy1.drewN _)).mono ?_; rintro e w' ⟨rfl, q3, rfl⟩; rw [H1.out])
      | (go_at_call 98; refine (spec_l06Same_c (w1.drewN (q2 + q3)) w.heap.size (w.heap.size + 1) 2 _ a2 b2 A3 B3 n3 cap3 m3 bap3 x3 y3 hl3 kl3 hn3 kn3 (hx3.drewN _) (hy3.drewN _) c2 c3 d2 d3).mono ?_; rintro e w' ⟨rfl, q4, rfl⟩; rw [H3.out]))
    go_ret
    exact ⟨ret_bool (by rw [H0.out, H1.out, H3.out]; rfl), below_drewN B1' _⟩
  have H3 := Lib.hid h3
  clear h3
  go_wp2_with (first
    | (go_at_call 97; refine (spec_l04Equal_c _ _ A1 B1 n1 cap1 m1 bap1 x1 y1 hl1 kl1 hn1 kn1 (hx1.drewN _) (hy1.drewN _)).mono ?_; rintro e w' ⟨rfl, q3, rfl⟩; rw [H1.out])
    | (go_at_call 98; refine (spec_l06Same_c (w1.drewN (q2 + q3)) w.heap.size (w.heap.size + 1) 2 _ a2 b2 A3 B3 n3 cap3 m3 bap3 x3 y3 hl3 kl3 hn3 kn3 (hx3.drewN _) (hy3.drewN _) c2 c3 d2 d3).mono ?_; rintro e w' ⟨rfl, q4, rfl⟩; rw [H3.out]))
  go_ret
  exact ⟨ret_bool (by rw [H0.out, H1.out, H3.out]; simp), below_drewN B1' _⟩

set_option maxRecDepth 100000 in
set_option maxHeartbeats 2000000 in
theorem impl_SameDesk_c (w : World) (A0 : Option Addr) (n0 cap0 : Nat) (x0 : List Nat) (hl0 : x0.length = n0) (hn0 : n0 ≤ 1048576) (hx0 : Sl w w.heap.size A0 (x0.map (Value.float .f32))) (f0 : ∀ x ∈ x0, x < 4294967296) (A1 : Option Addr) (n1 cap1 : Nat) (x1 : List Int) (hl1 : x1.length = n1) (hn1 : n1 ≤ 1048576) (hx1 : Sl w w.heap.size A1 (x1.map (Value.int .i64))) (a2 : Int) (A3 : Option Addr) (n3 cap3 : Nat) (x3 : List Int) (hl3 : x3.length = n3) (hn3 : n3 ≤ 1048576) (hx3 : Sl w w.heap.size A3 (x3.map (Value.int .i64))) (a4 : ByteArray) (_hs4 : a4.size ≤ 1048576) (B0 : Option Addr) (m0 bap0 : Nat) (y0 : List Nat) (kl0 : y0.length = m0) (kn0 : m0 ≤ 1048576) (hy0 : Sl w w.heap.size B0 (y0.map (Value.float .f32))) (g0 : ∀ x ∈ y0, x < 4294967296) (B1 : Option Addr) (m1 bap1 : Nat) (y1 : List Int) (kl1 : y1.length = m1) (kn1 : m1 ≤ 1048576) (hy1 : Sl w w.heap.size B1 (y1.map (Value.int .i64))) (b2 : Int) (B3 : Option Addr) (m3 bap3 : Nat) (y3 : List Int) (kl3 : y3.length = m3) (kn3 : m3 ≤ 1048576) (hy3 : Sl w w.heap.size B3 (y3.map (Value.int .i64))) (b4 : ByteArray) (_ks4 : b4.size ≤ 1048576) :
    Calls Try.prog 50 #[.agg #[.slice A0 n0 cap0, .slice A1 n1 cap1, .int .i64 a2, .slice A3 n3 cap3, .string a4], .agg #[.slice B0 m0 bap0, .slice B1 m1 bap1, .int .i64 b2, .slice B3 m3 bap3, .string b4]] w fun e w' => e = .returned (.bool (sameDeskB x0 x1 a2 x3 a4 y0 y1 b2 y3 b4)) ∧ Below w.heap.size w w' := by
  obtain ⟨w1, e1⟩ : ∃ q : World, q = (w.alloc (.cells #[.slice A0 n0 cap0, .slice A1 n1 cap1, .int .i64 a2, .slice A3 n3 cap3, .string a4] 84)).alloc (.cells #[.slice B0 m0 bap0, .slice B1 m1 bap1, .int .i64 b2, .slice B3 m3 bap3, .string b4] 84) := ⟨_, rfl⟩
  have B1' : Below w.heap.size w w1 := by rw [e1]; exact ((Below.refl _ _).alloc (Nat.le_refl _) _).alloc (by simp) _
  have z1 : w1.heap.size = w.heap.size + 1 + 1 := by rw [e1]; simp
  have c0 : w1.cell? ⟨w.heap.size, 0, none⟩ = some (.slice A0 n0 cap0) := by rw [e1]; (first | (simp; done) | (simp (disch := (first | (simp; done) | (simp; omega))) [World.cell?_alloc_at]; done) | (simp (disch := (first | (simp; done) | (simp; omega))) [World.cell?_alloc_past]; done) | (simp (disch := (first | (simp; done) | (simp; omega))) [World.cell?_alloc_at, World.cell?_alloc_past]; done) | (simp (disch := (first | (simp; done) | (simp; omega))) [World.frozen?_alloc_at]; done) | (simp (disch := (first | (simp; done) | (simp; omega))) [World.frozen?_alloc_past]; done) | (simp (disch := (first | (simp; done) | (simp; omega))) [World.frozen?_alloc_at, World.frozen?_alloc_past]; done))
  have d0 : w1.cell? ⟨w.heap.size + 1, 0, none⟩ = some (.slice B0 m0 bap0) := by rw [e1]; (first | (simp; done) | (simp (disch := (first | (simp; done) | (simp; omega))) [World.cell?_alloc_at]; done) | (simp (disch := (first | (simp; done) | (simp; omega))) [World.cell?_alloc_past]; done) | (simp (disch := (first | (simp; done) | (simp; omega))) [World.cell?_alloc_at, World.cell?_alloc_past]; done) | (simp (disch := (first | (simp; done) | (simp; omega))) [World.frozen?_alloc_at]; done) | (simp (disch := (first | (simp; done) | (simp; omega))) [World.frozen?_alloc_past]; done) | (simp (disch := (first | (simp; done) | (simp; omega))) [World.frozen?_alloc_at, World.frozen?_alloc_past]; done))
  have c1 : w1.cell? ⟨w.heap.size, 1, none⟩ = some (.slice A1 n1 cap1) := by rw [e1]; (first | (simp; done) | (simp (disch := (first | (simp; done) | (simp; omega))) [World.cell?_alloc_at]; done) | (simp (disch := (first | (simp; done) | (simp; omega))) [World.cell?_alloc_past]; done) | (simp (disch := (first | (simp; done) | (simp; omega))) [World.cell?_alloc_at, World.cell?_alloc_past]; done) | (simp (disch := (first | (simp; done) | (simp; omega))) [World.frozen?_alloc_at]; done) | (simp (disch := (first | (simp; done) | (simp; omega))) [World.frozen?_alloc_past]; done) | (simp (disch := (first | (simp; done) | (simp; omega))) [World.frozen?_alloc_at, World.frozen?_alloc_past]; done))
  have d1 : w1.cell? ⟨w.heap.size + 1, 1, none⟩ = some (.slice B1 m1 bap1) := by rw [e1]; (first | (simp; done) | (simp (disch := (first | (simp; done) | (simp; omega))) [World.cell?_alloc_at]; done) | (simp (disch := (first | (simp; done) | (simp; omega))) [World.cell?_alloc_past]; done) | (simp (disch := (first | (simp; done) | (simp; omega))) [World.cell?_alloc_at, World.cell?_alloc_past]; done) | (simp (disch := (first | (simp; done) | (simp; omega))) [World.frozen?_alloc_at]; done) | (simp (disch := (first | (simp; done) | (simp; omega))) [World.frozen?_alloc_past]; done) | (simp (disch := (first | (simp; done) | (simp; omega))) [World.frozen?_alloc_at, World.frozen?_alloc_past]; done))
  have c2 : w1.cell? ⟨w.heap.size, 2, none⟩ = some (.int .i64 a2) := by rw [e1]; (first | (simp; done) | (simp (disch := (first | (simp; done) | (simp; omega))) [World.cell?_alloc_at]; done) | (simp (disch := (first | (simp; done) | (simp; omega))) [World.cell?_alloc_past]; done) | (simp (disch := (first | (simp; done) | (simp; omega))) [World.cell?_alloc_at, World.cell?_alloc_past]; done) | (simp (disch := (first | (simp; done) | (simp; omega))) [World.frozen?_alloc_at]; done) | (simp (disch := (first | (simp; done) | (simp; omega))) [World.frozen?_alloc_past]; done) | (simp (disch := (first | (simp; done) | (simp; omega))) [World.frozen?_alloc_at, World.frozen?_alloc_past]; done))
  have d2 : w1.cell? ⟨w.heap.size + 1, 2, none⟩ = some (.int .i64 b2) := by rw [e1]; (first | (simp; done) | (simp (disch := (first | (simp; done) | (simp; omega))) [World.cell?_alloc_at]; done) | (simp (disch := (first | (simp; done) | (simp; omega))) [World.cell?_alloc_past]; done) | (simp (disch := (first | (simp; done) | (simp; omega))) [World.cell?_alloc_at, World.cell?_alloc_past]; done) | (simp (disch := (first | (simp; done) | (simp; omega))) [World.frozen?_alloc_at]; done) | (simp (disch := (first | (simp; done) | (simp; omega))) [World.frozen?_alloc_past]; done) | (simp (disch := (first | (simp; done) | (simp; omega))) [World.frozen?_alloc_at, World.frozen?_alloc_past]; done))
  have c3 : w1.cell? ⟨w.heap.size, 3, none⟩ = some (.slice A3 n3 cap3) := by rw [e1]; (first | (simp; done) | (simp (disch := (first | (simp; done) | (simp; omega))) [World.cell?_alloc_at]; done) | (simp (disch := (first | (simp; done) | (simp; omega))) [World.cell?_alloc_past]; done) | (simp (disch := (first | (simp; done) | (simp; omega))) [World.cell?_alloc_at, World.cell?_alloc_past]; done) | (simp (disch := (first | (simp; done) | (simp; omega))) [World.frozen?_alloc_at]; done) | (simp (disch := (first | (simp; done) | (simp; omega))) [World.frozen?_alloc_past]; done) | (simp (disch := (first | (simp; done) | (simp; omega))) [World.frozen?_alloc_at, World.frozen?_alloc_past]; done))
  have d3 : w1.cell? ⟨w.heap.size + 1, 3, none⟩ = some (.slice B3 m3 bap3) := by rw [e1]; (first | (simp; done) | (simp (disch := (first | (simp; done) | (simp; omega))) [World.cell?_alloc_at]; done) | (simp (disch := (first | (simp; done) | (simp; omega))) [World.cell?_alloc_past]; done) | (simp (disch := (first | (simp; done) | (simp; omega))) [World.cell?_alloc_at, World.cell?_alloc_past]; done) | (simp (disch := (first | (simp; done) | (simp; omega))) [World.frozen?_alloc_at]; done) | (simp (disch := (first | (simp; done) | (simp; omega))) [World.frozen?_alloc_past]; done) | (simp (disch := (first | (simp; done) | (simp; omega))) [World.frozen?_alloc_at, World.frozen?_alloc_past]; done))
  have c4 : w1.cell? ⟨w.heap.size, 4, none⟩ = some (.string a4) := by rw [e1]; (first | (simp; done) | (simp (disch := (first | (simp; done) | (simp; omega))) [World.cell?_alloc_at]; done) | (simp (disch := (first | (simp; done) | (simp; omega))) [World.cell?_alloc_past]; done) | (simp (disch := (first | (simp; done) | (simp; omega))) [World.cell?_alloc_at, World.cell?_alloc_past]; done) | (simp (disch := (first | (simp; done) | (simp; omega))) [World.frozen?_alloc_at]; done) | (simp (disch := (first | (simp; done) | (simp; omega))) [World.frozen?_alloc_past]; done) | (simp (disch := (first | (simp; done) | (simp; omega))) [World.frozen?_alloc_at, World.frozen?_alloc_past]; done))
  have d4 : w1.cell? ⟨w.heap.size + 1, 4, none⟩ = some (.string b4) := by rw [e1]; (first | (simp; done) | (simp (disch := (first | (simp; done) | (simp; omega))) [World.cell?_alloc_at]; done) | (simp (disch := (first | (simp; done) | (simp; omega))) [World.cell?_alloc_past]; done) | (simp (disch := (first | (simp; done) | (simp; omega))) [World.cell?_alloc_at, World.cell?_alloc_past]; done) | (simp (disch := (first | (simp; done) | (simp; omega))) [World.frozen?_alloc_at]; done) | (simp (disch := (first | (simp; done) | (simp; omega))) [World.frozen?_alloc_past]; done) | (simp (disch := (first | (simp; done) | (simp; omega))) [World.frozen?_alloc_at, World.frozen?_alloc_past]; done))
  have hx0 := (hx0.below B1').more B1'.size
  have hy0 := (hy0.below B1').more B1'.size
  have hx1 := (hx1.below B1').more B1'.size
  have hy1 := (hy1.below B1').more B1'.size
  have hx3 := (hx3.below B1').more B1'.size
  have hy3 := (hy3.below B1').more B1'.size
  unfold sameDeskB
  go_enter Try.func50, Try.ntmps50
  go_wp2_with fail
  rw [← e1]
  clear e1
  refine (EqualFunc_f32_c w1 _ A0 B0 n0 cap0 m0 bap0 x0 y0 hl0 kl0 hn0 kn0 hx0 hy0 f0 g0).mono ?_
  rintro e w2 ⟨rfl, q2, rfl⟩
  cases h0 : sameL x0 y0
  · have H0 := Lib.hid h0
    clear h0
    go_wp2
    go_ret
    exact ⟨ret_bool (by rw [H0.out]; rfl), below_drewN B1' _⟩
  have H0 := Lib.hid h0
  clear h0
  obtain ⟨w2, ew2⟩ : ∃ x : World, x = w1.drewN q2 := ⟨_, rfl⟩
  have B2' : Below w.heap.size w w2 := by rw [ew2]; exact below_drewN B1' _
  have z2 : w2.heap.size = w.heap.size + 1 + 1 := by rw [ew2]; exact z1
  have c1a : w2.cell? ⟨w.heap.size, 1, none⟩ = some (.slice A1 n1 cap1) := by rw [ew2]; exact c1
  have d1a : w2.cell? ⟨w.heap.size + 1, 1, none⟩ = some (.slice B1 m1 bap1) := by rw [ew2]; exact d1
  have c2a : w2.cell? ⟨w.heap.size, 2, none⟩ = some (.int .i64 a2) := by rw [ew2]; exact c2
  have d2a : w2.cell? ⟨w.heap.size + 1, 2, none⟩ = some (.int .i64 b2) := by rw [ew2]; exact d2
  have c3a : w2.cell? ⟨w.heap.size, 3, none⟩ = some (.slice A3 n3 cap3) := by rw [ew2]; exact c3
  have d3a : w2.cell? ⟨w.heap.size + 1, 3, none⟩ = some (.slice B3 m3 bap3) := by rw [ew2]; exact d3
  have c4a : w2.cell? ⟨w.heap.size, 4, none⟩ = some (.string a4) := by rw [ew2]; exact c4
  have d4a : w2.cell? ⟨w.heap.size + 1, 4, none⟩ = some (.string b4) := by rw [ew2]; exact d4
  have hx1a : Sl w2 w2.heap.size A1 (x1.map (Value.int .i64)) := by rw [ew2]; exact hx1.drewN _
  have hy1a : Sl w2 w2.heap.size B1 (y1.map (Value.int .i64)) := by rw [ew2]; exact hy1.drewN _
  have hx3a : Sl w2 w2.heap.size A3 (x3.map (Value.int .i64)) := by rw [ew2]; exact hx3.drewN _
  have hy3a : Sl w2 w2.heap.size B3 (y3.map (Value.int .i64)) := by rw [ew2]; exact hy3.drewN _
  rw [← ew2]
  clear ew2 c0 c1 c2 c3 c4 d0 d1 d2 d3 d4 z1
  go_wp2_with fail
  refine (impl_SameCode_c w2 A1 B1 n1 cap1 m1 bap1 x1 y1 hl1 kl1 hn1 kn1 hx1a hy1a).mono ?_
  rintro e w3 ⟨rfl, hb3⟩
  have z3 := hb3.size
  have B3' := B2'.trans (hb3.mono (by omega))
  have c2b := (hb3.cell (p := ⟨w.heap.size, 2, none⟩) (by simp only []; omega)).trans c2a
  have d2b := (hb3.cell (p := ⟨w.heap.size + 1, 2, none⟩) (by simp only []; omega)).trans d2a
  have c3b := (hb3.cell (p := ⟨w.heap.size, 3, none⟩) (by simp only []; omega)).trans c3a
  have d3b := (hb3.cell (p := ⟨w.heap.size + 1, 3, none⟩) (by simp only []; omega)).trans d3a
  have c4b := (hb3.cell (p := ⟨w.heap.size, 4, none⟩) (by simp only []; omega)).trans c4a
  have d4b := (hb3.cell (p := ⟨w.heap.size + 1, 4, none⟩) (by simp only []; omega)).trans d4a
  cases h1 : eqL x1 y1
  · have H1 := Lib.hid h1
    clear h1
    go_wp2
    go_ret
    exact ⟨ret_bool (by rw [H0.out, H1.out]; rfl), B3'⟩
  have H1 := Lib.hid h1
  clear h1
  go_wp2_with fail
  refine (impl_SameParity_c w3 a2 b2 A3 B3 n3 cap3 m3 bap3 x3 y3 hl3 kl3 hn3 kn3 ((hx3a.below hb3).more z3) ((hy3a.below hb3).more z3)).mono ?_
  rintro e w4 ⟨rfl, hb4⟩
  have B4' := B3'.trans (hb4.mono (by omega))
  have c2c := (hb4.cell (p := ⟨w.heap.size, 2, none⟩) (by simp only []; omega)).trans c2b
  have d2c := (hb4.cell (p := ⟨w.heap.size + 1, 2, none⟩) (by simp only []; omega)).trans d2b
  have c3c := (hb4.cell (p := ⟨w.heap.size, 3, none⟩) (by simp only []; omega)).trans c3b
  have d3c := (hb4.cell (p := ⟨w.heap.size + 1, 3, none⟩) (by simp only []; omega)).trans d3b
  have c4c := (hb4.cell (p := ⟨w.heap.size, 4, none⟩) (by simp only []; omega)).trans c4b
  have d4c := (hb4.cell (p := ⟨w.heap.size + 1, 4, none⟩) (by simp only []; omega)).trans d4b
  cases h3 : (a2 == b2) && eqL x3 y3
  · have H3 := Lib.hid h3
    clear h3
    go_wp2
    go_ret
    exact ⟨ret_bool (by rw [H0.out, H1.out, H3.out]; rfl), B4'⟩
  have H3 := Lib.hid h3
  clear h3
  go_wp2
  go_ret
  exact ⟨ret_bool (by rw [H0.out, H1.out, H3.out]; simp), B4'⟩

end Go.Proofs.Ytpdblaldndmdoaa
