/-
  Contracts: what a row answers (the program's).
  Conditions: at most 64 numbers, below 2^120.
-/
import Derived.Test.YtepdjehbgkfjhaaGA
import Derived.Test.YtepdjehbgkfjhaaH
namespace Go.Proofs.Ytepdjehbgkfjhaa
open Go.RowKit

theorem read_negW (x : Nat) : Ieee.single.read (Op.negFloat .f32 x) = (Ieee.single.read x).opposite := by
  have e : Op.negFloat .f32 x = x ^^^ 2 ^ 31 := rfl
  have h1 : (x ^^^ 2 ^ 31) % 2 ^ 31 = x % 2 ^ 31 := by rw [Nat.xor_mod_two_pow]; simp
  have h2 : (x ^^^ 2 ^ 31) / 2 ^ 31 = x / 2 ^ 31 ^^^ 1 := by rw [Nat.xor_div_two_pow]
  have h3 : (x ^^^ 2 ^ 31) % 2147483648 = x % 2147483648 := h1
  have h4 : (x ^^^ 2 ^ 31) / 2147483648 = x / 2147483648 ^^^ 1 := h2
  have h5 : ((x / 2147483648 ^^^ 1) % 2 == 1) = !(x / 2147483648 % 2 == 1) := by
    obtain ⟨q, hq⟩ : ∃ q, x / 2147483648 = q := ⟨_, rfl⟩
    rw [hq]
    have : (q ^^^ 1) % 2 = (q % 2) ^^^ 1 := by
      have := Nat.xor_mod_two_pow (a := q) (b := 1) (n := 1)
      simpa using this
    rw [this]
    rcases Nat.mod_two_eq_zero_or_one q with h | h <;> rw [h] <;> rfl
  rw [e]
  unfold Ieee.Format.read
  dsimp only
  rw [sw32, h3, h4, h5]
  split
  · rfl
  · split
    · rfl
    · split <;> rfl
theorem key_negW {x : Nat} (h : x % 2147483648 < 2139095040) : keyW (Op.negFloat .f32 x) = - keyW x := by
  obtain ⟨s, m, i, e, _⟩ := read_fin h
  unfold keyW
  rw [read_negW, e]
  show Ieee.signed (!s) m (i + 149).toNat = - Ieee.signed s m (i + 149).toNat
  unfold Ieee.signed
  cases s <;> simp
theorem abs_not_lt {a x : Nat} (ha : a ≤ 128) (h : Low a x) : (FloatKind.f32.format.order (absW x) 0 == some Ordering.lt) = false := by
  have hf := low_fin32 ha h
  have hf2 := low_fin32 ha (abs_low h)
  rw [order_key hf2 (by decide), key_zero]
  have ho := order_key hf (show (0 : Nat) % 2147483648 < 2139095040 by decide)
  rw [key_zero] at ho
  unfold absW
  rw [ho]
  rcases Int.lt_trichotomy (keyW x) 0 with h1 | h1 | h1
  · rw [Int.compare_eq_lt.2 h1]
    show (some (compare (keyW (Op.negFloat .f32 x)) 0) == some Ordering.lt) = false
    rw [key_negW hf, Int.compare_eq_gt.2 (by omega)]; rfl
  · rw [h1]; simp [h1]
  · rw [Int.compare_eq_gt.2 h1]
    show (some (compare (keyW x) 0) == some Ordering.lt) = false
    rw [Int.compare_eq_gt.2 h1]; rfl
theorem ansSt_abs {a : Nat} {xs : List Nat} (ha : a ≤ 128) (h : ∀ x ∈ xs, Low a x) (to : Nat) : ∀ k, k ≤ xs.length → ∀ z, (ansSt xs to k).1 = some z → (FloatKind.f32.format.order z 0 == some Ordering.lt) = false
  | 0, _, z, hz => by cases hz
  | k + 1, hk, z, hz => by
    have ih := ansSt_abs ha h to k (by omega)
    unfold ansSt at hz
    dsimp only at hz
    split at hz
    · exact ih z hz
    · have hx : (FloatKind.f32.format.order (absW (xs.getD k 0)) 0 == some Ordering.lt) = false := by
        rw [List.getD_eq_getElem?_getD, List.getElem?_eq_getElem (by omega)]
        exact abs_not_lt ha (h _ (List.getElem_mem _))
      cases hst : (ansSt xs to k).1 with
      | none => rw [hst] at hz; cases hz; exact hx
      | some u =>
        rw [hst] at hz
        have hz2 : (if FloatKind.f32.format.order (absW (xs.getD k 0)) u == some .lt then absW (xs.getD k 0) else u) = z := Option.some.inj hz
        rw [← hz2]
        split
        · exact hx
        · exact ih u hst
theorem ansSt_skip (xs : List Nat) (to : Nat) : ansSt xs to (to + 1) = ansSt xs to to := by rw [ansSt]; simp
theorem ansSt_none {xs : List Nat} {to k : Nat} (hk : k ≠ to) (h : (ansSt xs to k).1 = none) : ansSt xs to (k + 1) = (some (absW (xs.getD k 0)), (ansSt xs to k).2 != (FloatKind.f32.format.order (xs.getD k 0) 0 == some .gt)) := by
  rw [ansSt]; simp [hk, h]
theorem ansSt_some {xs : List Nat} {to k z : Nat} (hk : k ≠ to) (h : (ansSt xs to k).1 = some z) : ansSt xs to (k + 1) = (some (if FloatKind.f32.format.order (absW (xs.getD k 0)) z == some .lt then absW (xs.getD k 0) else z), (ansSt xs to k).2 != (FloatKind.f32.format.order (xs.getD k 0) 0 == some .gt)) := by
  rw [ansSt]; simp [hk, h]
theorem ord_m1 : (FloatKind.f32.format.order 3212836864 0 == some Ordering.lt) = true := by decide +kernel


theorem impl_absB_c (w : World) (x : Nat) : Calls Try.prog 46 #[.float .f32 x] w fun e w' => e = .returned (.float .f32 (absW x)) ∧ w = w' := by
  by_cases h : FloatKind.f32.format.order x 0 = some .lt
  · have e1 : absW x = Op.negFloat .f32 x := by unfold absW; rw [h]; rfl
    rw [e1]
    go_enter Try.func46, Try.ntmps46
    go_wp2
    go_ret
    exact ⟨rfl, rfl⟩
  · have e1 : absW x = x := by unfold absW; rw [if_neg (by simpa using h)]
    have hb : (FloatKind.f32.format.order x 0 == some Ordering.lt) = false := by simpa using h
    rw [e1]
    go_enter Try.func46, Try.ntmps46
    go_wp2
    go_ret
    exact ⟨rfl, rfl⟩


set_option maxRecDepth 100000 in
set_option maxHeartbeats 4000000 in
theorem impl_answer_c (w : World) (B : Nat) (A : Option Addr) (n cap to a : Nat) (xs : List Nat) (hl : xs.length = n) (hn : n ≤ 64) (hto : to ≤ 64) (ha : 10 ≤ a) (ha2 : a ≤ 120) (hlow : ∀ x ∈ xs, Low a x) (hx : Sl w B A (xs.map (Value.float .f32))) :
    Calls Try.prog 32 #[.slice A n cap, .int .i64 (to : Int)] w fun e w' => e = .returned (.float .f32 (ansW xs to)) ∧ ∃ k, w' = w.drewN k := by
  have hab := ansSt_abs (by omega) hlow to
  have hsl := ansSt_low hlow to
  have HAB := Lib.hid hab
  have HSL := Lib.hid hsl
  have HLW := Lib.hid hlow
  have hm1 := ord_m1
  clear hab hsl hlow
  go_enter Try.func32, Try.ntmps32
  go_wp2
  go_loopw [5, 6, 11] (fun v e i wr => ∃ k : Nat, k ≤ n ∧ i = .int .i64 (k : Int) ∧ v = .float .f32 ((ansSt xs to k).1.getD 3212836864) ∧ e = .bool (!(ansSt xs to k).2) ∧ wr = w) (fun _ _ i _ => n - (intOf i).toNat)
  case atStart => exact ⟨0, Nat.zero_le _, rfl, rfl, rfl, rfl⟩
  case round =>
    obtain ⟨k, hk, rfl, rfl, rfl, hw⟩ := hrel
    rw [hw]
    clear hw
    by_cases hlt : k < n
    · obtain ⟨b, off, rfl, hbb, c1⟩ := hx.get k (by omega)
      have hgd : xs.getD k 0 = xs[k]'(by omega) := by rw [List.getD_eq_getElem?_getD, List.getElem?_eq_getElem (by omega)]; rfl
      obtain ⟨x, hxx⟩ : ∃ x, xs[k]'(by omega) = x := ⟨_, rfl⟩
      rw [hxx] at c1 hgd
      by_cases hkt : k = to
      · subst hkt
        have hst := ansSt_skip xs k
        have he : ((k : Int) == (k : Int)) = true := by simp
        have HST := Lib.hid hst
        obtain ⟨st, hs⟩ : ∃ st, ansSt xs k k = st := ⟨_, rfl⟩
        have HS := Lib.hid hs
        rw [hs]
        clear hst hxx hgd hx hs
        go_wp2_with fail
        go_roundw
        case rel => exact ⟨k + 1, hlt, by go_num, by rw [HST.out, HS.out], by rw [HST.out, HS.out], trivial⟩
        case measure => simp [intOf]; omega
      · have he : ((k : Int) == (to : Int)) = false := by simp; omega
        have hnone := ansSt_none (xs := xs) hkt
        have hsome := fun z => ansSt_some (xs := xs) (z := z) hkt
        have habz := HAB.out k (by omega)
        rw [hgd] at hnone hsome
        obtain ⟨c, hc⟩ : ∃ c, (FloatKind.f32.format.order x 0 == some Ordering.gt) = c := ⟨_, rfl⟩
        rw [hc] at hnone hsome
        obtain ⟨o, d, hs⟩ : ∃ o d, ansSt xs to k = (o, d) := ⟨_, _, rfl⟩
        rw [hs] at hnone hsome habz ⊢
        cases o with
        | none =>
          have hst := hnone rfl
          have HST := Lib.hid hst
          clear hnone hsome hst habz hs hxx hgd hx
          cases c <;> cases d
          all_goals
            go_wp2_with (go_at_call 46; refine (impl_absB_c _ _).mono ?_; rintro e w' ⟨rfl, rfl⟩)
            go_roundw
            case rel => exact ⟨k + 1, hlt, by go_num, by rw [HST.out]; rfl, by rw [HST.out]; rfl, trivial⟩
            case measure => simp [intOf]; omega
        | some z =>
          have hst := hsome z rfl
          have hz := habz z rfl
          obtain ⟨l, hll⟩ : ∃ l, (FloatKind.f32.format.order (absW x) z == some Ordering.lt) = l := ⟨_, rfl⟩
          rw [hll] at hst
          have HST := Lib.hid hst
          clear hnone hsome hst habz hs hxx hgd hx
          cases c <;> cases d <;> cases l
          all_goals
            go_wp2_with (go_at_call 46; refine (impl_absB_c _ _).mono ?_; rintro e w' ⟨rfl, rfl⟩)
            go_roundw
            case rel => exact ⟨k + 1, hlt, by go_num, by rw [HST.out]; rfl, by rw [HST.out]; rfl, trivial⟩
            case measure => simp [intOf]; omega
    · have hkn : k = n := by omega
      subst hkn
      have hans : ansW xs to = if (ansSt xs to k).2 then vop .mul 1061158912 ((ansSt xs to k).1.getD 1148846080) else Op.negFloat .f32 (vop .mul 1061158912 ((ansSt xs to k).1.getD 1148846080)) := by unfold ansW; rw [hl]
      have hza := HAB.out k (by omega)
      have hzl := HSL.out k (by omega)
      obtain ⟨o, d, hs⟩ : ∃ o d, ansSt xs to k = (o, d) := ⟨_, _, rfl⟩
      rw [hs] at hans hza hzl ⊢
      have hlow2 : Low a (o.getD 1148846080) := by
        cases o with
        | none => exact Low.mono (a := 10) (by unfold Low; decide) ha
        | some z => exact hzl z rfl
      obtain ⟨r, m1, _⟩ := mul_low (by omega) hlow2
      have m2 := mul_neg (by omega) hlow2
      have er : vop .mul 1061158912 (o.getD 1148846080) = r := by unfold vop; rw [m1]; rfl
      rw [er] at m2 hans
      dsimp only at hans
      have HANS := Lib.hid hans
      have f1 := fun t d => (show fres .mul .f32 1061158912 (o.getD 1148846080) t d = r by simp [fres, m1])
      have f2 : fdr .mul .f32 1061158912 (o.getD 1148846080) = 0 := by simp [fdr, m1]
      have f3 := fun t d => (show fres .mul .f32 3208642560 (o.getD 1148846080) t d = Op.negFloat .f32 r by simp [fres, m2])
      have f4 : fdr .mul .f32 3208642560 (o.getD 1148846080) = 0 := by simp [fdr, m2]
      clear hans hs hlow2 m1 m2 er hzl hx
      cases o with
      | none =>
        simp only [Option.getD_none] at f1 f2 f3 f4
        clear hza
        cases d
        all_goals
          go_wp2_with fail
          go_ret
          exact ⟨by rw [HANS.out]; rfl, _, rfl⟩
      | some z =>
        have hz := hza z rfl
        simp only [Option.getD_some] at f1 f2 f3 f4
        clear hza
        cases d
        all_goals
          go_wp2_with fail
          go_ret
          exact ⟨by rw [HANS.out]; rfl, _, rfl⟩

end Go.Proofs.Ytepdjehbgkfjhaa
