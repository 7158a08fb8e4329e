/-
  Contracts: cmp.Compare at float32, the comparison of PolarBest, and the numbers from 0.
  Conditions: words below infinity.
-/
import Derived.Test.YtlcdcicdlfakgaaKY
import Derived.Test.YtlcdcicdlfakgaaSI
import Derived.Deep.QuietTactic
import Derived.BigQuiet
namespace Go.Proofs.Ytlcdcicdlfakgaa
open Go.RowKit

def czW (a b : Int) : Int := if a < b then -1 else if b < a then 1 else 0
theorem czW_lt {a b : Int} (h : a < b) : czW a b = -1 := by unfold czW; rw [if_pos h]
theorem czW_gt {a b : Int} (h : b < a) : czW a b = 1 := by unfold czW; rw [if_neg (by omega), if_pos h]
theorem czW_eq {a b : Int} (h : a = b) : czW a b = 0 := by unfold czW; rw [if_neg (by omega), if_neg (by omega)]
theorem czW_sign (a b : Int) : czW a b < 0 ↔ a < b := by
  rcases Int.lt_trichotomy a b with h | h | h
  · rw [czW_lt h]; exact ⟨fun _ => h, fun _ => by decide⟩
  · rw [czW_eq h]; exact ⟨fun h2 => absurd h2 (by decide), fun h2 => by omega⟩
  · rw [czW_gt h]; exact ⟨fun h2 => absurd h2 (by decide), fun h2 => by omega⟩


set_option maxRecDepth 100000 in
theorem isNaN32_c (w : World) (x : Nat) (hx : x % 2147483648 < 2139095040) : Calls Try.prog 64 #[.float .f32 x] w fun e w' => e = .returned (.bool false) ∧ w = w' := by
  have h : FloatKind.f32.format.order x x = some .eq := by rw [order_key hx hx]; simp
  go_enter Try.func64, Try.ntmps64
  go_wp2
  go_ret
  exact ⟨rfl, rfl⟩
set_option maxRecDepth 100000 in
theorem Compare32_c (w : World) (x y : Nat) (hx : x % 2147483648 < 2139095040) (hy : y % 2147483648 < 2139095040) : Calls Try.prog 37 #[.float .f32 x, .float .f32 y] w fun e w' => e = .returned (.int .i64 (czW (keyW x) (keyW y))) ∧ w = w' := by
  have h := order_key hx hy
  have HX := Lib.hid hx
  have HY := Lib.hid hy
  rcases Int.lt_trichotomy (keyW x) (keyW y) with h1 | h1 | h1
  · rw [Int.compare_eq_lt.2 h1] at h
    have HE := Lib.hid (czW_lt h1)
    clear h1 hx hy
    go_enter Try.func37, Try.ntmps37
    go_wp2_with (go_at_call 64; refine (isNaN32_c _ _ ?_).mono ?_; (first | exact HX.out | exact HY.out); rintro e w' ⟨rfl, rfl⟩)
    go_ret
    exact ⟨ret_int HE.out.symm, rfl⟩
  · rw [h1] at h ⊢
    rw [show compare (keyW y) (keyW y) = Ordering.eq by simp] at h
    have HE := Lib.hid (czW_eq (rfl : keyW y = keyW y))
    clear h1 hx hy
    go_enter Try.func37, Try.ntmps37
    go_wp2_with (go_at_call 64; refine (isNaN32_c _ _ ?_).mono ?_; (first | exact HX.out | exact HY.out); rintro e w' ⟨rfl, rfl⟩)
    go_ret
    exact ⟨ret_int HE.out.symm, rfl⟩
  · rw [Int.compare_eq_gt.2 h1] at h
    have HE := Lib.hid (czW_gt h1)
    clear h1 hx hy
    go_enter Try.func37, Try.ntmps37
    go_wp2_with (go_at_call 64; refine (isNaN32_c _ _ ?_).mono ?_; (first | exact HX.out | exact HY.out); rintro e w' ⟨rfl, rfl⟩)
    go_ret
    exact ⟨ret_int HE.out.symm, rfl⟩
theorem Compare32_at {w : World} {x y m : Nat} (hx : x % 2147483648 < 2139095040) (hy : y % 2147483648 < 2139095040) :
    Calls Try.prog 37 #[.float .f32 x, .float .f32 y] (w.drewN m) fun e w' => e = .returned (.int .i64 (czW (keyW x) (keyW y))) ∧ ∃ k, w' = w.drewN k := by
  refine (Compare32_c _ x y hx hy).mono ?_
  rintro e w' ⟨rfl, rfl⟩
  exact ⟨rfl, m, rfl⟩


set_option maxRecDepth 100000 in
theorem closure_c (w : World) (B lb n cap : Nat) (A : Option Addr) (xs : List Nat) (x y : Nat) (hx : x < xs.length) (hy : y < xs.length) (hl : xs.length = n) (hfin : ∀ z ∈ xs, z % 2147483648 < 2139095040) (hc : w.cell? ⟨lb, 0, none⟩ = some (.slice A n cap)) (hS : Sl w B A (xs.map (Value.float .f32))) :
    Calls Try.prog 36 #[.int .i64 (x : Int), .int .i64 (y : Int), .pointer (some ⟨lb, 0, none⟩)] w fun e w' => e = .returned (.int .i64 (czW (keyW xs[x]) (keyW xs[y]))) ∧ ∃ k, w' = w.drewN k := by
  obtain ⟨b, off, rfl, hbb, hc1⟩ := hS.get x (by simpa using hx)
  obtain ⟨b2, off2, e2, hbb2, hc2⟩ := hS.get y (by simpa using hy)
  cases e2
  have f1 := hfin _ (List.getElem_mem hx)
  have f2 := hfin _ (List.getElem_mem hy)
  obtain ⟨u, hu⟩ : ∃ u, xs[x]'hx = u := ⟨_, rfl⟩
  obtain ⟨v, hv⟩ : ∃ v, xs[y]'hy = v := ⟨_, rfl⟩
  rw [hu] at hc1 f1 ⊢
  rw [hv] at hc2 f2 ⊢
  have F1 := Lib.hid f1
  have F2 := Lib.hid f2
  rw [hl] at hx hy
  clear hS hfin hu hv f1 f2 hl
  go_enter Try.func36, Try.ntmps36
  go_wp2_with fail
  go_quiet ((go_at_call 37; exact Compare32_at F1.out F2.out))
  go_wp2
  go_ret
  exact ⟨rfl, _, rfl⟩
def keyL (xs : List Nat) (i : Nat) : Int := keyW (xs.getD i 0)
theorem cmp_of (w : World) (B g lb n cap : Nat) (A : Option Addr) (xs : List Nat) (hl : xs.length = n) (hfin : ∀ z ∈ xs, z % 2147483648 < 2139095040) (hBg : B ≤ g) (hlb : lb < B) (hBw : B ≤ w.heap.size) (hc : w.cell? ⟨lb, 0, none⟩ = some (.slice A n cap)) (hS : Sl w B A (xs.map (Value.float .f32))) :
    Cmp w g lb n (keyL xs) (fun i j => czW (keyL xs i) (keyL xs j)) := by
  refine ⟨fun W hW x y hx hy => ?_, fun x y => czW_sign _ _⟩
  have hb : Below B w W := (Below.refl _ _).grown hW hBw (fun j hj => by cases hj; exact hBg)
  have hx' : x < xs.length := by omega
  have hy' : y < xs.length := by omega
  refine (closure_c W B lb n cap A xs x y hx' hy' hl hfin ((hb.cell (p := ⟨lb, 0, none⟩) hlb).trans hc) (hS.below hb)).mono ?_
  rintro e w' ⟨rfl, k, rfl⟩
  refine ⟨?_, below_drewN (Below.refl _ _) _⟩
  unfold keyL
  rw [List.getD_eq_getElem?_getD, List.getD_eq_getElem?_getD, List.getElem?_eq_getElem hx', List.getElem?_eq_getElem hy']
  rfl


set_option maxRecDepth 100000 in
set_option maxHeartbeats 1000000 in
theorem counting_c (w : World) (n : Nat) (hn : n ≤ 1048576) :
    Calls Try.prog 34 #[.int .i64 (n : Int)] w fun e w' => ∃ v, e = .returned v ∧ Ow w' w.heap.size 2 v (rowV n fun i => i) ∧ Below w.heap.size w w' := by
  go_enter Try.func34, Try.ntmps34
  go_wp2_with fail
  have ho1 := own_empty w w.heap.size 2 (Nat.le_refl _)
  have hb1 : Below w.heap.size w (w.alloc (.cells #[] 2)) := (Below.refl _ _).alloc (Nat.le_refl _) _
  go_loopw [3, 7] (fun v i wr => ∃ k : Nat, k ≤ n ∧ i = .int .i64 k ∧ Ow wr w.heap.size 2 v (rowV k fun i => i) ∧ Below w.heap.size w wr) (fun _ i _ => n - (intOf i).toNat)
  case atStart => exact ⟨0, Nat.zero_le _, rfl, ho1, hb1⟩
  case round =>
    clear ho1 hb1
    obtain ⟨k, hk, rfl, ho, hb⟩ := hrel
    obtain ⟨wo, rfl⟩ : ∃ wo : World, wo = wr := ⟨_, rfl⟩
    have hz := hb.size
    by_cases hlt : k < n
    · have hst : rowV (k + 1) (fun i => i) = rowV k (fun i => i) ++ [.int .i64 (k : Int)] := by simp [rowV, List.range_succ]
      have hlen : (rowV k fun i => i).length + 1 ≤ 1099511627776 := by rw [rowV_len]; omega
      have HT := Lib.hid hst
      clear hst
      go_wp2_with (at_builtin; refine app1 Try.underlying33 infoInt64 rfl (by decide) rfl _ _ rfl _ _ _ rfl (ho.alloc _) _ _ _ rfl (cell_new1 _ _ _) rfl hlen (by simp; omega) ?_; intro v' w4 ho4 hb4)
      go_roundw
      case rel =>
        refine ⟨k + 1, by omega, by go_num, ?_, (hb.alloc hz _).trans hb4⟩
        rw [HT.out]
        exact ho4
      case measure => simp [intOf]; omega
    · have : k = n := by omega
      subst this
      go_wp2
      go_ret
      exact ⟨_, rfl, ho, hb⟩

end Go.Proofs.Ytlcdcicdlfakgaa
