/-
  Contracts: whether a code is perfect, of the program and of the reference (finite choice numbers, step for step).
  Conditions: lengths at most 1048576.
-/
import Derived.Test.YtldnhflgpbcmeaaQB
namespace Go.Proofs.Ytldnhflgpbcmeaa
open Go.RowKit

/-- the program's product of a choice, step for step -/
def chF (n k : Nat) : Nat → Nat | 0 => 1 | i + 1 => chF n k i * (n - k + (i + 1)) / (i + 1)
/-- the reference's next choice, step for step -/
def wayF (n : Nat) : Nat → Nat | 0 => 1 | k + 1 => wayF n k * (n - k) / (k + 1)
/-- how many words are near -/
def nearF (n : Nat) : Nat → Nat | 0 => 0 | k + 1 => nearF n k + wayF n k
theorem ch_way : ∀ n < 17, ∀ k < 17, k ≤ n → chF n k k = wayF n k ∧ wayF n k ≤ 20000 ∧ nearF n (k + 1) ≤ 70000 := by decide +kernel
theorem ch_bd : ∀ n < 17, ∀ k < 17, k ≤ n → ∀ i < 17, i ≤ k → chF n k i ≤ 20000 := by decide +kernel
def halfT (d : Nat) : Nat := (d - 1) / 2 + 1
def perfV (m : Int) (xs : List Int) : Bool := validParB m xs && (nearF m.toNat (halfT (distV m xs).toNat) * 2 ^ xs.length == 2 ^ m.toNat)
theorem near_bd {n k : Nat} (h : k ≤ n) (hn : n ≤ 16) : nearF n k ≤ 70000 := by
  cases k with
  | zero => simp [nearF]
  | succ j => exact (ch_way n (by omega) j (by omega) (by omega)).2.2


theorem ch_step {n k j : Nat} (hn : n ≤ 16) (hk : k ≤ n) (hj : j < k) : wrap64 ((wrap64 ((chF n k j : Int) * ((n : Int) - k + ((j : Int) + 1)))).tdiv ((j : Int) + 1)) = (chF n k (j + 1) : Int) := by
  have h1 := ch_bd n (by omega) k (by omega) hk j (by omega) (by omega)
  have e2 : (n : Int) - k + ((j : Int) + 1) = ((n - k + (j + 1) : Nat) : Int) := by omega
  have e4 : (j : Int) + 1 = ((j + 1 : Nat) : Int) := rfl
  have h2 : chF n k j * (n - k + (j + 1)) ≤ 20000 * 16 := Nat.mul_le_mul h1 (by omega)
  have e3 : wrap64 ((chF n k j : Int) * ((n - k + (j + 1) : Nat) : Int)) = ((chF n k j * (n - k + (j + 1)) : Nat) : Int) := by rw [← Int.natCast_mul]; exact IntWalk.wrap64_in _ (by omega)
  have h3 := Nat.le_trans (Nat.div_le_self (chF n k j * (n - k + (j + 1))) (j + 1)) h2
  rw [e2, e3, e4, ← Int.ofNat_tdiv]
  show wrap64 ((chF n k (j + 1) : Nat) : Int) = _
  have h4 : chF n k (j + 1) ≤ 20000 * 16 := h3
  exact IntWalk.wrap64_in _ (by omega)
set_option maxRecDepth 100000 in
theorem impl_choose_c (w : World) (n k : Nat) (hn : n ≤ 16) (hk : k ≤ n) : Calls Try.prog 34 #[.int .i64 (n : Int), .int .i64 (k : Int)] w fun e w' => e = .returned (.int .i64 (wayF n k : Int)) ∧ w = w' := by
  have e1 := (ch_way n (by omega) k (by omega) hk).1
  rw [← e1]
  have HS := Lib.hid (fun j (hj : j < k) => ch_step hn hk hj)
  clear e1
  go_enter Try.func34, Try.ntmps34
  go_wp2
  go_loop [5, 6] (fun o i => ∃ j : Nat, j ≤ k ∧ o = .int .i64 (chF n k j : Int) ∧ i = .int .i64 ((j + 1 : Nat) : Int)) (fun _ i => k + 1 - (intOf i).toNat)
  case atStart => exact ⟨0, Nat.zero_le _, rfl, rfl⟩
  case round =>
    obtain ⟨j, hj, rfl, rfl⟩ := hrel
    by_cases hlt : j < k
    · have hs := HS.out j hlt
      go_wp2
      go_round
      case rel => exact ⟨j + 1, hlt, by first | exact congrArg (Value.int .i64) hs | (rw [← hs]; trace_state; fail), by go_num⟩
      case measure => show k + 1 - ((j : Int) + 1 + 1).toNat < k + 1 - ((j + 1 : Nat) : Int).toNat; omega
    · have : j = k := by omega
      subst this
      go_wp2
      go_ret
      exact ⟨rfl, rfl⟩

theorem half_bd {d : Nat} (h1 : 1 ≤ d) : 1 ≤ halfT d ∧ halfT d ≤ d := by unfold halfT; omega

theorem perf_eq {M a N : Nat} (ha : a ≤ 70000) (hN : N ≤ 256) (hM : M ≤ 16) : (IntKind.i64.wrap ((a : Int) * (N : Int)) == IntKind.i64.wrap (2 ^ M)) = (a * N == 2 ^ M) := by
  have h1 : a * N ≤ 70000 * 256 := Nat.mul_le_mul ha hN
  have e1 : (2 : Int) ^ M = ((2 ^ M : Nat) : Int) := by simp
  rw [(wrap16 hM).1, e1, ← Int.natCast_mul, IntWalk.i64_in _ (by omega)]
  exact cast_beq2 _ _
theorem perf_eq2 {M a n : Nat} (ha : a ≤ 70000) (hN : 2 ^ n ≤ 256) (hM : M ≤ 16) : (wrap64 ((a : Int) * 2 ^ n) == wrap64 (2 ^ M)) = (a * 2 ^ n == 2 ^ M) := by
  have h1 : a * 2 ^ n ≤ 70000 * 256 := Nat.mul_le_mul ha hN
  have e1 : (2 : Int) ^ M = ((2 ^ M : Nat) : Int) := by simp
  have e2 : (a : Int) * 2 ^ n = ((a * 2 ^ n : Nat) : Int) := by simp
  rw [(wrap16 hM).2.1, e1, e2, IntWalk.wrap64_in _ (by omega)]
  exact cast_beq2 _ _

set_option maxRecDepth 100000 in
set_option maxHeartbeats 2000000 in
theorem impl_IsPerfect_c (w : World) (m : Int) (A : Option Addr) (n cap : Nat) (xs : List Int) (hl : xs.length = n) (hn : n ≤ 1048576) (hx : Sl w w.heap.size A (xs.map (Value.int .i64))) :
    Calls Try.prog 8 #[.agg #[.int .i64 m, .slice A n cap]] w fun e w' => e = .returned (.tuple #[.bool (perfV m xs), .bool (validParB m xs)]) ∧ Below w.heap.size w w' := by
  have hB0 : Below w.heap.size w (w.alloc (.cells #[.int .i64 m, .slice A n cap] 27)) := (Below.refl _ _).alloc (Nat.le_refl _) _
  cases hv : validParB m xs
  · have e1 : perfV m xs = false := by unfold perfV; rw [hv]; rfl
    rw [e1]
    have HV := Lib.hid hv
    clear hv e1
    go_enter Try.func8, Try.ntmps8
    go_wp2_with fail
    refine (impl_DistanceOf_c _ m A n cap xs hl hn ((hx.below hB0).more hB0.size)).mono ?_
    rintro e w2 ⟨rfl, hb2⟩
    rw [HV.out]
    go_wp2
    go_ret2
    exact ⟨rfl, hB0.trans (hb2.mono hB0.size)⟩
  · have hpr : parRows m xs = true := by
      unfold validParB at hv
      rw [Bool.and_eq_true] at hv
      exact hv.1
    obtain ⟨m1, m2, g1, g8, hxs⟩ := par_facts hpr
    obtain ⟨M, rfl⟩ : ∃ M : Nat, m = M := ⟨m.toNat, by omega⟩
    have hM : M ≤ 16 := by omega
    obtain ⟨d, hd⟩ := dist_some hv
    have hdv := dist_val hv hd
    obtain ⟨hd1, hd2, hd3, hd4⟩ := distK_mem hd
    have e1 : perfV (M : Int) xs = (nearF M (halfT d) * 2 ^ n == 2 ^ M) := by unfold perfV; rw [hv, hdv, hl]; rfl
    obtain ⟨ht1, ht2⟩ := half_bd hd1
    obtain ⟨T, hT⟩ : ∃ T, halfT d = T := ⟨_, rfl⟩
    rw [hT] at e1 ht1 ht2
    have hTd : T = (d - 1) / 2 + 1 := by rw [← hT]; rfl
    rw [e1]
    obtain ⟨N, hN⟩ : ∃ N, 2 ^ n = N := ⟨_, rfl⟩
    have hp8 := pow8 (n := n) (by omega)
    rw [hN] at hp8 ⊢
    have hg8 : n ≤ 8 := by omega
    have hnb := near_bd (n := M) (k := T) (by omega) hM
    have hw := wrap16 (M := M) hM
    have HW := Lib.hid hw
    have HN := Lib.hid hN
    have HV := Lib.hid hv
    have HD := Lib.hid hdv
    have HX := Lib.hid hx
    clear hv e1 hpr hxs hx hd hdv hd3 hd4 hN hT hw
    go_enter Try.func8, Try.ntmps8
    go_wp2_with fail
    obtain ⟨w1, ew⟩ : ∃ q : World, q = w.alloc (.cells #[.int .i64 (M : Int), .slice A n cap] 27) := ⟨_, rfl⟩
    rw [← ew] at hB0
    have c0 : w1.cell? ⟨w.heap.size, 0, none⟩ = some (.int .i64 (M : Int)) := by rw [ew]; (first | (simp; done) | (simp (disch := (first | (simp; done) | (simp; omega))) [World.cell?_alloc_at]; done) | (simp (disch := (first | (simp; done) | (simp; omega))) [World.cell?_alloc_past]; done) | (simp (disch := (first | (simp; done) | (simp; omega))) [World.cell?_alloc_at, World.cell?_alloc_past]; done) | (simp (disch := (first | (simp; done) | (simp; omega))) [World.frozen?_alloc_at]; done) | (simp (disch := (first | (simp; done) | (simp; omega))) [World.frozen?_alloc_past]; done) | (simp (disch := (first | (simp; done) | (simp; omega))) [World.frozen?_alloc_at, World.frozen?_alloc_past]; done))
    have c1 : w1.cell? ⟨w.heap.size, 1, none⟩ = some (.slice A n cap) := by rw [ew]; (first | (simp; done) | (simp (disch := (first | (simp; done) | (simp; omega))) [World.cell?_alloc_at]; done) | (simp (disch := (first | (simp; done) | (simp; omega))) [World.cell?_alloc_past]; done) | (simp (disch := (first | (simp; done) | (simp; omega))) [World.cell?_alloc_at, World.cell?_alloc_past]; done) | (simp (disch := (first | (simp; done) | (simp; omega))) [World.frozen?_alloc_at]; done) | (simp (disch := (first | (simp; done) | (simp; omega))) [World.frozen?_alloc_past]; done) | (simp (disch := (first | (simp; done) | (simp; omega))) [World.frozen?_alloc_at, World.frozen?_alloc_past]; done))
    have z1 : w.heap.size < w1.heap.size := by rw [ew]; simp
    rw [← ew]
    clear ew
    refine (impl_DistanceOf_c w1 M A n cap xs hl hn ((HX.out.below hB0).more hB0.size)).mono ?_
    rintro e w2 ⟨rfl, hb2⟩
    rw [HV.out, HD.out]
    have d0 := (hb2.cell (p := ⟨w.heap.size, 0, none⟩) z1).trans c0
    have d1 := (hb2.cell (p := ⟨w.heap.size, 1, none⟩) z1).trans c1
    have z2 := hb2.size
    have hB2 : Below w.heap.size w w2 := hB0.trans (hb2.mono hB0.size)
    clear c0 c1 hb2 hB0
    go_wp2
    go_loop [6, 19] (fun o i => ∃ k : Nat, k ≤ T ∧ o = .int .i64 (nearF M k : Int) ∧ i = .int .i64 (k : Int)) (fun _ i => T - (intOf i).toNat)
    case atStart => exact ⟨0, Nat.zero_le _, rfl, rfl⟩
    case round =>
      obtain ⟨k, hk, rfl, rfl⟩ := hrel
      have hnk := near_bd (n := M) (k := k) (by omega) hM
      by_cases hlt : k < T
      · have hwb := (ch_way M (by omega) k (by omega) (by omega)).2.1
        have hwk : nearF M (k + 1) = nearF M k + wayF M k := rfl
        have hlt2 : (k : Int) < ((d : Int) - 1) / 2 + 1 := by omega
        go_wp2_with (go_at_call 34; refine (impl_choose_c w2 M k hM (by omega)).mono ?_; rintro e w' ⟨rfl, rfl⟩)
        go_round
        case rel => exact ⟨k + 1, hlt, by rw [hwk]; go_num, by go_num⟩
        case measure => simp only [intOf]; omega
      · have : k = T := by omega
        subst this
        have hge2 : ¬ (k : Int) < ((d : Int) - 1) / 2 + 1 := by omega
        clear hTd
        go_wp2_with fail
        go_region_held3 (fun w' => w'.cell? ⟨w.heap.size, 0, none⟩ = some (.int .i64 (M : Int)) ∧ w'.cell? ⟨w.heap.size, 1, none⟩ = some (.slice A n cap))
          (first | exact ⟨p0, p1⟩ | exact ⟨d0, d1⟩)
          (first | (go_at_call 35; refine (impl_messages_c w2.drew (M : Int) A n cap N hg8 HN.out).mono ?_; rintro e w3 ⟨rfl, hb3⟩; have hb3 := below_undrew hb3; have p0 := (hb3.cell (p := ⟨w.heap.size, 0, none⟩) (Nat.lt_of_lt_of_le z1 z2)).trans d0; have p1 := (hb3.cell (p := ⟨w.heap.size, 1, none⟩) (Nat.lt_of_lt_of_le z1 z2)).trans d1))
        go_wp2
        go_ret2
        exact ⟨congrArg (fun b => Ending.returned (.tuple #[.bool b, .bool true])) (perf_eq hnk hp8.2 hM), hB2.trans (hb3.mono hB2.size)⟩


theorem way_step {n k : Nat} (hn : n ≤ 16) (hk : k ≤ n) : wrap64 ((wrap64 ((wayF n k : Int) * ((n : Int) - k))).tdiv ((k : Int) + 1)) = (wayF n (k + 1) : Int) := by
  have h1 := (ch_way n (by omega) k (by omega) (by omega)).2.1
  have e2 : (n : Int) - k = ((n - k : Nat) : Int) := by omega
  have e4 : (k : Int) + 1 = ((k + 1 : Nat) : Int) := rfl
  have h2 : wayF n k * (n - k) ≤ 20000 * 16 := Nat.mul_le_mul h1 (by omega)
  have e3 : wrap64 ((wayF n k : Int) * ((n - k : Nat) : Int)) = ((wayF n k * (n - k) : Nat) : Int) := by rw [← Int.natCast_mul]; exact IntWalk.wrap64_in _ (by omega)
  have h3 := Nat.le_trans (Nat.div_le_self (wayF n k * (n - k)) (k + 1)) h2
  rw [e2, e3, e4, ← Int.ofNat_tdiv]
  show wrap64 ((wayF n (k + 1) : Nat) : Int) = _
  have h4 : wayF n (k + 1) ≤ 20000 * 16 := h3
  exact IntWalk.wrap64_in _ (by omega)
end Go.Proofs.Ytldnhflgpbcmeaa
