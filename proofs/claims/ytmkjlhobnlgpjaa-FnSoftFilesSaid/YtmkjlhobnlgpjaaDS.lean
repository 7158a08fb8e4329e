/-
  Contracts: numbers that are the same, and desks that are the same.
  Conditions: words of 32 bits; lengths at most 1048576.
-/
import Derived.Test.YtmkjlhobnlgpjaaSD
import Derived.Laws.Externs
namespace Go.Proofs.Ytmkjlhobnlgpjaa
open Go.RowKit

/-! ### words that stand for the same -/
theorem read_num {x : Nat} {s : Bool} {m : Nat} {i : Int} (h : Ieee.single.read x = .number s m i) :
    ∃ p : Nat, i = Ieee.single.leastPlace + p ∧ x % 2147483648 = p * 8388608 + m ∧ m < 16777216 ∧ (1 ≤ p → 8388608 ≤ m) ∧ s = (x / 2147483648 % 2 == 1) := by
  unfold Ieee.Format.read at h
  dsimp only at h
  rw [sw32, bi32, ir32] at h
  split at h
  · rename_i h1
    cases h
    exact ⟨0, by simp, by omega, by omega, by omega, rfl⟩
  · split at h
    · rename_i h1 h2
      cases h
      refine ⟨x % 2147483648 / 8388608 - 1, by simp, ?_, by omega, by omega, rfl⟩
      omega
    · split at h <;> cases h
theorem read_inf {x : Nat} {s : Bool} (h : Ieee.single.read x = .infinity s) : x % 2147483648 = 2139095040 ∧ s = (x / 2147483648 % 2 == 1) := by
  unfold Ieee.Format.read at h
  dsimp only at h
  rw [sw32, bi32, ir32] at h
  split at h
  · cases h
  · split at h
    · cases h
    · split at h
      · rename_i h3
        cases h
        exact ⟨h3, rfl⟩
      · cases h
def sgn (x : Nat) : Bool := x / 2147483648 % 2 == 1
theorem word_ext {x y : Nat} (hx : x < 4294967296) (hy : y < 4294967296) (hr : x % 2147483648 = y % 2147483648) (hs : sgn x = sgn y) : x = y := by
  unfold sgn at hs
  have h1 : x / 2147483648 < 2 := by omega
  have h2 : y / 2147483648 < 2 := by omega
  have h3 : x / 2147483648 = y / 2147483648 := by
    have h4 : x / 2147483648 = 0 ∨ x / 2147483648 = 1 := by omega
    have h5 : y / 2147483648 = 0 ∨ y / 2147483648 = 1 := by omega
    rcases h4 with h4 | h4 <;> rcases h5 with h5 | h5 <;> rw [h4, h5] at hs ⊢ <;> simp at hs
  omega
theorem signed_inj {s : Bool} {m n a c : Nat} (h : Ieee.signed s m a = Ieee.signed s n c) : m * 2 ^ a = n * 2 ^ c := by
  unfold Ieee.signed at h
  rw [Nat.shiftLeft_eq, Nat.shiftLeft_eq] at h
  cases s <;> simp only [Bool.false_eq_true, if_false, if_true] at h <;> omega
theorem order_eq {x y : Nat} (hx : x < 4294967296) (hy : y < 4294967296) (nx : nanB .f32 x = false) (ny : nanB .f32 y = false) (hs : sgn x = sgn y) (h : FloatKind.f32.format.order x y = some .eq) : x = y := by
  unfold nanB at nx ny
  change (Ieee.single.read x).isNaN = false at nx
  change (Ieee.single.read y).isNaN = false at ny
  change (Ieee.single.read x).order (Ieee.single.read y) = some .eq at h
  cases ex : Ieee.single.read x with
  | nan s t => rw [ex] at nx; simp [Ieee.Datum.isNaN] at nx
  | infinity s =>
    cases ey : Ieee.single.read y with
    | nan s t => rw [ey] at ny; simp [Ieee.Datum.isNaN] at ny
    | infinity t => exact word_ext hx hy ((read_inf ex).1.trans (read_inf ey).1.symm) hs
    | number t n j => rw [ex, ey] at h; simp [Ieee.Datum.order] at h; split at h <;> cases h
  | number s m i =>
    cases ey : Ieee.single.read y with
    | nan s t => rw [ey] at ny; simp [Ieee.Datum.isNaN] at ny
    | infinity t => rw [ex, ey] at h; simp [Ieee.Datum.order] at h; split at h <;> cases h
    | number t n j =>
      rw [ex, ey] at h
      obtain ⟨p, h1, h2, h3, h4, h5⟩ := read_num ex
      obtain ⟨q, g1, g2, g3, g4, g5⟩ := read_num ey
      have hst : s = t := by rw [h5, g5]; exact hs
      subst hst
      unfold Ieee.Datum.order at h
      simp only [Option.some.injEq] at h
      have h6 := Int.compare_eq_eq.1 h
      have h7 := signed_inj h6
      subst h1
      subst g1
      refine word_ext hx hy ?_ hs
      rcases Nat.le_total p q with hpq | hpq
      · have e1 : (Ieee.single.leastPlace + (p : Int) - min (Ieee.single.leastPlace + (p : Int)) (Ieee.single.leastPlace + (q : Int))).toNat = 0 := by omega
        have e2 : (Ieee.single.leastPlace + (q : Int) - min (Ieee.single.leastPlace + (p : Int)) (Ieee.single.leastPlace + (q : Int))).toNat = q - p := by omega
        rw [e1, e2, Nat.pow_zero, Nat.mul_one] at h7
        have hqp : q = p := by
          by_cases hlt : p < q
          · have h8 : 8388608 ≤ n := g4 (by omega)
            have h9 : 2 ^ 1 ≤ 2 ^ (q - p) := Nat.pow_le_pow_right (by omega) (by omega)
            have h10 : 8388608 * 2 ≤ n * 2 ^ (q - p) := Nat.mul_le_mul h8 h9
            omega
          · omega
        subst hqp
        rw [Nat.sub_self, Nat.pow_zero, Nat.mul_one] at h7
        omega
      · have e1 : (Ieee.single.leastPlace + (p : Int) - min (Ieee.single.leastPlace + (p : Int)) (Ieee.single.leastPlace + (q : Int))).toNat = p - q := by omega
        have e2 : (Ieee.single.leastPlace + (q : Int) - min (Ieee.single.leastPlace + (p : Int)) (Ieee.single.leastPlace + (q : Int))).toNat = 0 := by omega
        rw [e1, e2, Nat.pow_zero, Nat.mul_one] at h7
        have hqp : q = p := by
          by_cases hlt : q < p
          · have h8 : 8388608 ≤ m := h4 (by omega)
            have h9 : 2 ^ 1 ≤ 2 ^ (p - q) := Nat.pow_le_pow_right (by omega) (by omega)
            have h10 : 8388608 * 2 ≤ m * 2 ^ (p - q) := Nat.mul_le_mul h8 h9
            omega
          · omega
        subst hqp
        rw [Nat.sub_self, Nat.pow_zero, Nat.mul_one] at h7
        omega
theorem word_sign {f : Ieee.Format} (s : Bool) (r : Nat) (h : r < f.signWeight) : decide (f.signWeight ≤ f.word s r) = s ∧ f.word s r < 2 * f.signWeight := by
  unfold Ieee.Format.word
  cases s
  · simp; omega
  · simp; omega
theorem widen_sign {x r : Nat} (nx : nanB .f32 x = false) (h : floatToFloatBits .f32 x .f64 = some r) : decide (9223372036854775808 ≤ r) = sgn x ∧ r < 18446744073709551616 := by
  unfold nanB at nx
  have hd : FloatKind.f32.decode x = Ieee.single.read x := rfl
  have hi := Ieee.double.infRung_lt
  unfold floatToFloatBits at h
  rw [if_neg (by decide), hd] at h
  have key : ∀ s k, k < Ieee.double.signWeight → Ieee.double.word s k = r → s = sgn x → decide (9223372036854775808 ≤ r) = sgn x ∧ r < 18446744073709551616 := by
    intro s k hk hr hs
    have := word_sign (f := Ieee.double) s k hk
    rw [hr, sw64, hs] at this
    exact ⟨this.1, by omega⟩
  cases ex : Ieee.single.read x with
  | nan s t => change (Ieee.single.read x).isNaN = false at nx; rw [ex] at nx; simp [Ieee.Datum.isNaN] at nx
  | infinity s =>
    rw [ex] at h
    simp only [Option.some.injEq] at h
    exact key s _ hi h (read_inf ex).2
  | number s m e =>
    rw [ex] at h
    simp only at h
    split at h
    · cases h
    · simp only [Option.some.injEq] at h
      obtain ⟨p, _, _, _, _, hs⟩ := read_num ex
      change Ieee.double.nearest s m e = r at h
      unfold Ieee.Format.nearest at h
      dsimp only at h
      split at h
      · exact key s 0 (by rw [sw64]; omega) h hs
      · exact key s _ (Nat.lt_of_le_of_lt (Nat.min_le_right ..) hi) h hs

def canB (x : Nat) : Nat := if nanB .f32 x then 2143289344 else x
def sameW (x y : Nat) : Bool := canB x == canB y
theorem can_nan {x : Nat} (h : nanB .f32 x = true) : canB x = 2143289344 := by unfold canB; rw [h]; rfl
theorem can_nn {x : Nat} (h : nanB .f32 x = false) : canB x = x := by unfold canB; rw [h]; rfl
theorem nan_const : nanB .f32 2143289344 = true := by decide +kernel


set_option maxRecDepth 100000 in
theorem run_f64bits (b : Nat) (w : World) : (callFunc 80 #[.float .f64 b]).run Try.prog w = .ok (.value (.int .u64 (b : Int))) w :=
  (run_callFunc_extern (e := Extern.MathFloatBits.float64bits) Try.func80 (by kernel_rfl) (by kernel_rfl) (by kernel_rfl) (by kernel_rfl) _ w).trans rfl
set_option maxRecDepth 100000 in
theorem run_f32bits (b : Nat) (w : World) : (callFunc 70 #[.float .f32 b]).run Try.prog w = .ok (.value (.int .u32 (b : Int))) w :=
  (run_callFunc_extern (e := Extern.MathFloatBits.float32bits) Try.func70 (by kernel_rfl) (by kernel_rfl) (by kernel_rfl) (by kernel_rfl) _ w).trans rfl
set_option maxRecDepth 100000 in
theorem Signbit_c (w : World) (b : Nat) (hb : b < 18446744073709551616) : Calls Try.prog 64 #[.float .f64 b] w fun e w' => e = .returned (.bool (decide (9223372036854775808 ≤ b))) ∧ w = w' := by
  have hfb := run_f64bits b
  by_cases h : 9223372036854775808 ≤ b
  · have h1 : IntKind.i64.wrap (b : Int) = (b : Int) - 18446744073709551616 := by unfold IntKind.wrap; simp [IntKind.bits, IntKind.signed]; omega
    rw [decide_eq_true h]
    go_enter Try.func64, Try.ntmps64
    go_wp2
    go_ret
    exact ⟨ret_bool (by first | (simp; done) | (simp; omega)), rfl⟩
  · have h1 : IntKind.i64.wrap (b : Int) = (b : Int) := IntWalk.i64_in _ (by omega)
    rw [decide_eq_false h]
    go_enter Try.func64, Try.ntmps64
    go_wp2
    go_ret
    exact ⟨ret_bool (by first | (simp; done) | (simp; omega)), rfl⟩


set_option maxRecDepth 100000 in
theorem spec_l01Bits_c (w : World) (x : Nat) (hx : x < 4294967296) : Calls Try.prog 67 #[.float .f32 x] w fun e w' => e = .returned (.int .i64 (canB x : Int)) ∧ w = w' := by
  cases h : nanB .f32 x
  · have ho := order_self .f32 x h
    rw [can_nn h]
    have hfb := run_f32bits x
    have hw : IntKind.i64.wrap (x : Int) = (x : Int) := IntWalk.i64_in _ (by omega)
    clear h
    go_enter Try.func67, Try.ntmps67
    go_wp2
    go_ret
    exact ⟨rfl, rfl⟩
  · have ho := order_nan .f32 x x h
    rw [can_nan h]
    clear h
    go_enter Try.func67, Try.ntmps67
    go_wp2
    go_ret
    exact ⟨rfl, rfl⟩
theorem cast_beq (a b : Nat) : ((a : Int) == (b : Int)) = (a == b) := by
  rw [Bool.eq_iff_iff]
  simp
  omega
set_option maxRecDepth 100000 in
theorem spec_l01Same_c (w : World) (x y : Nat) (hx : x < 4294967296) (hy : y < 4294967296) : Calls Try.prog 63 #[.float .f32 x, .float .f32 y] w fun e w' => e = .returned (.bool (sameW x y)) ∧ w = w' := by
  go_enter Try.func63, Try.ntmps63
  go_wp2_with fail
  refine (spec_l01Bits_c w x hx).mono ?_
  rintro e w' ⟨rfl, rfl⟩
  go_wp2_with fail
  refine (spec_l01Bits_c w y hy).mono ?_
  rintro e w' ⟨rfl, rfl⟩
  go_wp2
  go_ret
  exact ⟨ret_bool (cast_beq _ _), rfl⟩


set_option maxRecDepth 100000 in
set_option maxHeartbeats 1000000 in
theorem impl_SameNumber_c (w : World) (x y : Nat) (hx : x < 4294967296) (hy : y < 4294967296) : Calls Try.prog 38 #[.float .f32 x, .float .f32 y] w fun e w' => e = .returned (.bool (sameW x y)) ∧ ∃ k, w' = w.drewN k := by
  cases nx : nanB .f32 x
  · have ox := order_self .f32 x nx
    cases ny : nanB .f32 y
    · have oy := order_self .f32 y ny
      have hs : sameW x y = (x == y) := by unfold sameW; rw [can_nn nx, can_nn ny]
      rw [hs]
      obtain ⟨r, hr, _⟩ := widen_some x nx
      obtain ⟨q, hq, _⟩ := widen_some y ny
      have sr := widen_sign nx hr
      have sq := widen_sign ny hq
      cases ho : FloatKind.f32.format.order x y == some Ordering.eq
      · have hne : (x == y) = false := by
          rw [beq_eq_false_iff_ne]
          rintro rfl
          rw [ox] at ho
          simp at ho
        rw [hne]
        clear hs nx ny hr hq sr sq
        go_enter Try.func38, Try.ntmps38
        go_wp2
        go_ret
        exact ⟨rfl, 0, rfl⟩
      · have heq : (sgn x == sgn y) = (x == y) := by
          rw [Bool.eq_iff_iff]
          constructor
          · intro h
            exact beq_iff_eq.2 (order_eq hx hy nx ny (beq_iff_eq.1 h) (by simpa using ho))
          · intro h
            rw [beq_iff_eq] at h
            subst h
            simp
        have HEQ := Lib.hid heq
        have SR := Lib.hid sr
        have SQ := Lib.hid sq
        clear hs heq nx ny sr sq
        go_enter Try.func38, Try.ntmps38
        have ex : ∀ t d, fcv .f32 x .f64 t d = r := fun t d => by unfold fcv; rw [hr]
        have ey : ∀ t d, fcv .f32 y .f64 t d = q := fun t d => by unfold fcv; rw [hq]
        have dx : fcvd .f32 x .f64 = 0 := by unfold fcvd; rw [hr]
        have dy : fcvd .f32 y .f64 = 0 := by unfold fcvd; rw [hq]
        go_wp2_with fail
        refine (Signbit_c _ r SR.out.2).mono ?_
        rintro e w' ⟨rfl, rfl⟩
        go_wp2_with fail
        refine (Signbit_c _ q SQ.out.2).mono ?_
        rintro e w' ⟨rfl, rfl⟩
        rw [SR.out.1, SQ.out.1]
        go_wp2
        go_ret
        exact ⟨ret_bool HEQ.out, _, rfl⟩
    · have oy := order_nan .f32 y y ny
      have hs : sameW x y = false := by
        unfold sameW
        rw [can_nn nx, can_nan ny, beq_eq_false_iff_ne]
        rintro rfl
        rw [nan_const] at nx
        cases nx
      rw [hs]
      clear hs nx ny
      go_enter Try.func38, Try.ntmps38
      go_wp2
      go_ret
      exact ⟨rfl, 0, rfl⟩
  · have ox := order_nan .f32 x x nx
    cases ny : nanB .f32 y
    · have oy := order_self .f32 y ny
      have hs : sameW x y = false := by
        unfold sameW
        rw [can_nan nx, can_nn ny, beq_eq_false_iff_ne]
        rintro rfl
        rw [nan_const] at ny
        cases ny
      rw [hs]
      clear hs nx ny
      go_enter Try.func38, Try.ntmps38
      go_wp2
      go_ret
      exact ⟨rfl, 0, rfl⟩
    · have oy := order_nan .f32 y y ny
      have hs : sameW x y = true := by unfold sameW; rw [can_nan nx, can_nan ny]; rfl
      rw [hs]
      clear hs nx ny
      go_enter Try.func38, Try.ntmps38
      go_wp2
      go_ret
      exact ⟨rfl, 0, rfl⟩


def sameL (xs ys : List Nat) : Bool := xs.map canB == ys.map canB
theorem sl_ne {xs ys : List Nat} {i : Nat} (h1 : i < xs.length) (h2 : i < ys.length) (h : canB xs[i] ≠ canB ys[i]) : sameL xs ys = false := by
  unfold sameL
  rw [beq_eq_false_iff_ne]
  intro he
  apply h
  have h3 := congrArg (fun l => l[i]?) he
  simpa [h1, h2] using h3
theorem sl_eq {xs ys : List Nat} (hl : xs.length = ys.length) (h : ∀ i (h1 : i < xs.length) (h2 : i < ys.length), canB xs[i] = canB ys[i]) : sameL xs ys = true := by
  unfold sameL
  rw [beq_iff_eq]
  exact List.ext_getElem (by simpa using hl) (fun i h1 h2 => by simpa using h i (by simpa using h1) (by simpa using h2))
theorem sl_len {xs ys : List Nat} (h : xs.length ≠ ys.length) : sameL xs ys = false := by
  unfold sameL
  rw [beq_eq_false_iff_ne]
  intro he
  exact h (by simpa using congrArg List.length he)
def eqL (xs ys : List Int) : Bool := xs == ys
theorem el_ne {xs ys : List Int} {i : Nat} (h1 : i < xs.length) (h2 : i < ys.length) (h : xs[i] ≠ ys[i]) : eqL xs ys = false := same_ne h1 h2 h
theorem el_eq {xs ys : List Int} (hl : xs.length = ys.length) (h : ∀ i (h1 : i < xs.length) (h2 : i < ys.length), xs[i] = ys[i]) : eqL xs ys = true := same_eq hl h
theorem el_len {xs ys : List Int} (h : xs.length ≠ ys.length) : eqL xs ys = false := same_len h


set_option maxRecDepth 100000 in
set_option maxHeartbeats 1000000 in
theorem EqualFunc_f32_c (w : World) (B : Nat) (A A2 : Option Addr) (n cap n2 cap2 : Nat) (xs ys : List Nat) (hl : xs.length = n) (hl2 : ys.length = n2) (hn : n ≤ 1048576) (hn2 : n2 ≤ 1048576) (hx : Sl w B A (xs.map (Value.float .f32))) (hy : Sl w B A2 (ys.map (Value.float .f32))) (fx : ∀ x ∈ xs, x < 4294967296) (fy : ∀ y ∈ ys, y < 4294967296) :
    Calls Try.prog 37 #[.slice A n cap, .slice A2 n2 cap2, .func (.func 38) #[] #[]] w fun e w' => e = .returned (.bool (sameL xs ys)) ∧ ∃ m, w' = w.drewN m := by
  have hent := Try.call38
  by_cases hne : n = n2
  · subst hne
    have he : ((n : Int) == (n : Int)) = true := by simp
    go_enter Try.func37, Try.ntmps37
    go_wp2
    go_loopw [17] (fun i wr => ∃ k m : Nat, k ≤ n ∧ i = .int .i64 k ∧ (∀ j (h1 : j < xs.length) (h2 : j < ys.length), j < k → canB xs[j] = canB ys[j]) ∧ wr = w.drewN m) (fun i _ => n - (intOf i).toNat)
    case atStart => exact ⟨0, 0, Nat.zero_le _, rfl, fun j _ _ hj => by omega, rfl⟩
    case round =>
      obtain ⟨k, m, hk, rfl, hp, rfl⟩ := hrel
      have HP := Lib.hid hp
      clear hp
      by_cases hlt : k < n
      · obtain ⟨b, off, rfl, hbb, hc1⟩ := hx.get k (by omega)
        obtain ⟨b2, off2, rfl, hbb2, hc2⟩ := hy.get k (by omega)
        have hk1 : k < xs.length := by omega
        have hk2 : k < ys.length := by omega
        have bx := fx _ (List.getElem_mem hk1)
        have by_ := fy _ (List.getElem_mem hk2)
        obtain ⟨x, hxx⟩ : ∃ x, xs[k]'hk1 = x := ⟨_, rfl⟩
        obtain ⟨y, hyy⟩ : ∃ y, ys[k]'hk2 = y := ⟨_, rfl⟩
        rw [hxx] at hc1 bx
        rw [hyy] at hc2 by_
        have HX := Lib.hid hxx
        have HY := Lib.hid hyy
        clear hx hy hxx hyy
        cases hxy : canB x == canB y
        · have HXY := Lib.hid hxy
          clear hxy
          go_wp2_with fail
          refine (impl_SameNumber_c (w.drewN m) x y bx by_).mono ?_
          rintro e w' ⟨rfl, q, rfl⟩
          unfold sameW
          rw [HXY.out]
          go_wp2
          go_ret
          refine ⟨ret_bool (sl_ne (i := k) hk1 hk2 ?_).symm, _, rfl⟩
          rw [HX.out, HY.out]
          have := HXY.out
          rwa [beq_eq_false_iff_ne] at this
        · have HXY := Lib.hid hxy
          clear hxy
          go_wp2_with fail
          refine (impl_SameNumber_c (w.drewN m) x y bx by_).mono ?_
          rintro e w' ⟨rfl, q, rfl⟩
          unfold sameW
          rw [HXY.out]
          go_wp2
          go_roundw
          case rel =>
            refine ⟨k + 1, _, by omega, by go_num, ?_, rfl⟩
            intro j h1 h2 hj
            by_cases hjk : j = k
            · subst hjk
              rw [HX.out, HY.out]
              exact beq_iff_eq.1 HXY.out
            · exact HP.out j h1 h2 (by omega)
          case measure => simp [intOf]; omega
      · have : k = n := by omega
        subst this
        go_wp2
        go_ret
        exact ⟨ret_bool (sl_eq (by omega) (fun i h1 h2 => HP.out i h1 h2 (by omega))).symm, _, rfl⟩
  · have he : ((n : Int) == (n2 : Int)) = false := by simp; omega
    rw [sl_len (by omega)]
    go_enter Try.func37, Try.ntmps37
    go_wp2
    go_ret
    exact ⟨rfl, 0, rfl⟩


theorem l01Same_at {w : World} {x y q m : Nat} {bb : Bool} (hb : (canB x == canB y) = bb) (hx : x < 4294967296) (hy : y < 4294967296) :
    Calls Try.prog 63 #[.float .f32 x, .float .f32 y] (w.drewN (q + m)) fun e w' => e = .returned (.bool bb) ∧ ∃ k, w' = w.drewN (q + k) := by
  refine (spec_l01Same_c _ x y hx hy).mono ?_
  rintro e w' ⟨rfl, rfl⟩
  exact ⟨by unfold sameW; rw [hb], m, rfl⟩
set_option maxRecDepth 100000 in
set_option maxHeartbeats 1000000 in
theorem spec_l01SameAll_c (w : World) (B : Nat) (A A2 : Option Addr) (n cap n2 cap2 : Nat) (xs ys : List Nat) (hl : xs.length = n) (hl2 : ys.length = n2) (hn : n ≤ 1048576) (hn2 : n2 ≤ 1048576) (hx : Sl w B A (xs.map (Value.float .f32))) (hy : Sl w B A2 (ys.map (Value.float .f32))) (fx : ∀ x ∈ xs, x < 4294967296) (fy : ∀ y ∈ ys, y < 4294967296) :
    Calls Try.prog 33 #[.slice A n cap, .slice A2 n2 cap2] w fun e w' => e = .returned (.bool (sameL xs ys)) ∧ ∃ m, w' = w.drewN m := by
  skip
  by_cases hne : n = n2
  · subst hne
    have he : ((n : Int) == (n : Int)) = true := by simp
    go_enter Try.func33, Try.ntmps33
    go_wp2
    go_loopw [5] (fun i wr => ∃ k m : Nat, k ≤ n ∧ i = .int .i64 k ∧ (∀ j (h1 : j < xs.length) (h2 : j < ys.length), j < k → canB xs[j] = canB ys[j]) ∧ wr = w.drewN m) (fun i _ => n - (intOf i).toNat)
    case atStart => exact ⟨0, 0, Nat.zero_le _, rfl, fun j _ _ hj => by omega, rfl⟩
    case round =>
      obtain ⟨k, m, hk, rfl, hp, rfl⟩ := hrel
      have HP := Lib.hid hp
      clear hp
      by_cases hlt : k < n
      · obtain ⟨b, off, rfl, hbb, hc1⟩ := hx.get k (by omega)
        obtain ⟨b2, off2, rfl, hbb2, hc2⟩ := hy.get k (by omega)
        have hk1 : k < xs.length := by omega
        have hk2 : k < ys.length := by omega
        have bx := fx _ (List.getElem_mem hk1)
        have by_ := fy _ (List.getElem_mem hk2)
        obtain ⟨x, hxx⟩ : ∃ x, xs[k]'hk1 = x := ⟨_, rfl⟩
        obtain ⟨y, hyy⟩ : ∃ y, ys[k]'hk2 = y := ⟨_, rfl⟩
        rw [hxx] at hc1 bx
        rw [hyy] at hc2 by_
        have HX := Lib.hid hxx
        have HY := Lib.hid hyy
        clear hx hy hxx hyy
        cases hxy : canB x == canB y
        · have HXY := Lib.hid hxy
          clear hxy
          go_wp2_with fail
          go_quiet ((go_at_call 63; exact l01Same_at HXY.out bx by_))
          go_wp2
          go_ret
          refine ⟨ret_bool (sl_ne (i := k) hk1 hk2 ?_).symm, _, World.drewN_drewN _ _ _⟩
          rw [HX.out, HY.out]
          have := HXY.out
          rwa [beq_eq_false_iff_ne] at this
        · have HXY := Lib.hid hxy
          clear hxy
          go_wp2_with fail
          go_quiet ((go_at_call 63; exact l01Same_at HXY.out bx by_))
          go_wp2
          go_roundw
          case rel =>
            refine ⟨k + 1, _, by omega, by go_num, ?_, rfl⟩
            intro j h1 h2 hj
            by_cases hjk : j = k
            · subst hjk
              rw [HX.out, HY.out]
              exact beq_iff_eq.1 HXY.out
            · exact HP.out j h1 h2 (by omega)
          case measure => simp [intOf]; omega
      · have : k = n := by omega
        subst this
        go_wp2
        go_ret
        exact ⟨ret_bool (sl_eq (by omega) (fun i h1 h2 => HP.out i h1 h2 (by omega))).symm, _, rfl⟩
  · have he : ((n : Int) == (n2 : Int)) = false := by simp; omega
    rw [sl_len (by omega)]
    go_enter Try.func33, Try.ntmps33
    go_wp2
    go_ret
    exact ⟨rfl, 0, rfl⟩






def sameDeskB (x0 : List Nat) (x1 : List Int) (a2 : Int) (x3 : List Int) (a4 : ByteArray) (y0 : List Nat) (y1 : List Int) (b2 : Int) (y3 : List Int) (b4 : ByteArray) : Bool := sameL x0 y0 && eqL x1 y1 && ((a2 == b2) && eqL x3 y3) && (a4.toList == b4.toList)
end Go.Proofs.Ytmkjlhobnlgpjaa
