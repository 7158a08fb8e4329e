/-
  Contracts: how many bits a soft list was made of, of the program and of the reference.
  Conditions: lengths at most 1048576.
-/
import Derived.Test.YtopeidmafalklaaWA
import Derived.Test.YtopeidmafalklaaOB
import Derived.Deep.QuietTactic
import Derived.BigQuiet
namespace Go.Proofs.Ytopeidmafalklaa
open Go.RowKit

/-- a list of soft numbers that may have been sent -/
def sentB (m : Int) (ms : List Int) (xs : List Nat) : Bool := validCoderB m ms && softB xs && (xs.length % ms.length == 0)
def sentN (m : Int) (ms : List Int) (xs : List Nat) : Int := ((xs.length / ms.length : Nat) : Int) - m
def sentOk (m : Int) (ms : List Int) (xs : List Nat) : Bool := sentB m ms xs && decide (0 ≤ sentN m ms xs) && decide (sentN m ms xs ≤ 40)
def sentV (m : Int) (ms : List Int) (xs : List Nat) : Int := if sentB m ms xs then sentN m ms xs else 0


set_option maxRecDepth 100000 in
set_option maxHeartbeats 1000000 in
theorem impl_sentBits_c (w : World) (m : Int) (A : Option Addr) (n cap : Nat) (ms : List Int) (hl : ms.length = n) (hn : n ≤ 1048576) (hx : Sl w w.heap.size A (ms.map (Value.int .i64))) (A2 : Option Addr) (n2 cap2 : Nat) (xs : List Nat) (hl2 : xs.length = n2) (hn2 : n2 ≤ 1048576) (hy : Sl w w.heap.size A2 (xs.map (Value.float .f32))) :
    Calls Try.prog 42 #[.agg #[.int .i64 m, .slice A n cap], .slice A2 n2 cap2] w fun e w' => e = .returned (.tuple #[.int .i64 (sentV m ms xs), .bool (sentOk m ms xs)]) ∧ Below w.heap.size w w' := by
  obtain ⟨w1, e1⟩ : ∃ q : World, q = w.alloc (.cells #[.int .i64 m, .slice A n cap] 29) := ⟨_, rfl⟩
  have b1 : Below w.heap.size w w1 := by rw [e1]; exact (Below.refl _ _).alloc (Nat.le_refl _) _
  have z1 : w1.heap.size = w.heap.size + 1 := by rw [e1]; simp
  have hO : Obj w1 w.heap.size 29 #[.int .i64 m, .slice A n cap] := by rw [e1]; exact Obj.new _ _ _
  have HV := Lib.hid (impl_ValidCoder_c w1 m A n cap ms hl hn ((hx.below b1).more b1.size))
  have HS := Lib.hid (fun (W : World) (hW : Below w1.heap.size w1 W) => impl_IsSoft_c W w.heap.size A2 n2 cap2 xs hl2 ((hy.below b1).below (hW.mono b1.size)))
  obtain ⟨⟨C0, C1⟩, -⟩ := hO.two
  have HO := Lib.hid hO
  clear hx hy hO
  cases hv : validCoderB m ms
  · have e2 : sentV m ms xs = 0 := by unfold sentV sentB; rw [hv]; rfl
    have e3 : sentOk m ms xs = false := by unfold sentOk sentB; rw [hv]; rfl
    rw [e2, e3]
    rw [hv] at HV
    clear e2 e3 hv
    go_enter Try.func42, Try.ntmps42
    go_wp2_with (rw [← e1]; clear e1)
    refine HV.out.mono ?_
    rintro e w2 ⟨rfl, b2⟩
    go_wp2
    go_ret2
    exact ⟨rfl, b1.trans (b2.mono b1.size)⟩
  · rw [hv] at HV
    obtain ⟨hm1, hm4, hk1, hk4, -⟩ := vc_facts hv
    rw [hl] at hk1 hk4
    cases hs : softB xs
    · have e2 : sentV m ms xs = 0 := by unfold sentV sentB; rw [hs, Bool.and_false]; rfl
      have e3 : sentOk m ms xs = false := by unfold sentOk sentB; rw [hs, Bool.and_false]; rfl
      rw [e2, e3]
      rw [hs] at HS
      clear e2 e3 hv hs
      go_enter Try.func42, Try.ntmps42
      go_wp2_with (rw [← e1]; clear e1)
      refine HV.out.mono ?_
      rintro e w2 ⟨rfl, b2⟩
      go_wp2_with fail
      refine (HS.out w2 b2).mono ?_
      rintro e w3 ⟨rfl, q, rfl⟩
      go_wp2
      go_ret2
      exact ⟨rfl, below_drewN (b1.trans (b2.mono b1.size)) q⟩
    · rw [hs] at HS
      have hmod : (((n2 : Int)).tmod (n : Int)) = ((n2 % n : Nat) : Int) := by rw [Int.tmod_eq_emod_of_nonneg (by omega)]; push_cast; rfl
      have hdiv : (((n2 : Int)).tdiv (n : Int)) = ((n2 / n : Nat) : Int) := by rw [Int.tdiv_eq_ediv_of_nonneg (by omega)]; push_cast; rfl
      have hdb : n2 / n ≤ n2 := Nat.div_le_self _ _
      obtain ⟨r, hr⟩ : ∃ r, n2 % n = r := ⟨_, rfl⟩
      obtain ⟨d, hd⟩ : ∃ d, n2 / n = d := ⟨_, rfl⟩
      rw [hr] at hmod
      rw [hd] at hdiv hdb
      have hn0 : (n : Int) ≠ 0 := by omega
      have e4 : sentN m ms xs = (d : Int) - m := by unfold sentN; rw [hl, hl2, hd]
      by_cases hr0 : r = 0
      · have eB : sentB m ms xs = true := by unfold sentB; rw [hv, hs, hl, hl2, hr, hr0]; rfl
        have e2 : sentV m ms xs = (d : Int) - m := by unfold sentV; rw [eB, if_pos rfl, e4]
        have e3 : sentOk m ms xs = (decide (0 ≤ (d : Int) - m) && decide ((d : Int) - m ≤ 40)) := by unfold sentOk; rw [eB, e4, Bool.true_and]
        rw [e2, e3]
        subst hr0
        have hm' : ((n2 : Int)).tmod (n : Int) = 0 := hmod
        clear e2 e3 e4 eB hv hs hr hd hmod
        go_enter Try.func42, Try.ntmps42
        go_wp2_with (rw [← e1]; clear e1)
        refine HV.out.mono ?_
        rintro e w2 ⟨rfl, b2⟩
        clear C0 C1
        obtain ⟨⟨C0, C1⟩, -⟩ := (HO.out.below b2 HO.out.lt).two
        go_wp2_with fail
        refine (HS.out w2 b2).mono ?_
        rintro e w3 ⟨rfl, q, rfl⟩
        go_wp2
        go_quiet (fail)
        have hw : IntKind.i64.wrap ((d : Int) - m) = (d : Int) - m := IntWalk.i64_in _ (by omega)
        by_cases h0 : 0 ≤ (d : Int) - m
        · have h1 : (decide (0 ≤ (d : Int) - m)) = true := decide_eq_true h0
          go_wp2
          go_ret2
          exact ⟨by rw [decide_eq_true h0, Bool.true_and]; rfl, below_drewN (b1.trans (b2.mono b1.size)) _⟩
        · have h1 : (decide (0 ≤ (d : Int) - m)) = false := decide_eq_false h0
          go_wp2
          go_ret2
          exact ⟨by rw [show decide (m ≤ (d : Int)) = false from decide_eq_false (by omega)]; rfl, below_drewN (b1.trans (b2.mono b1.size)) _⟩
      · have eB : sentB m ms xs = false := by unfold sentB; rw [hv, hs, hl, hl2, hr]; simp [hr0]
        have e2 : sentV m ms xs = 0 := by unfold sentV; rw [eB]; rfl
        have e3 : sentOk m ms xs = false := by unfold sentOk; rw [eB]; rfl
        rw [e2, e3]
        clear e2 e3 e4 eB hv hs hr hd
        go_enter Try.func42, Try.ntmps42
        go_wp2_with (rw [← e1]; clear e1)
        refine HV.out.mono ?_
        rintro e w2 ⟨rfl, b2⟩
        clear C0 C1
        obtain ⟨⟨C0, C1⟩, -⟩ := (HO.out.below b2 HO.out.lt).two
        go_wp2_with fail
        refine (HS.out w2 b2).mono ?_
        rintro e w3 ⟨rfl, q, rfl⟩
        go_wp2
        go_ret2
        exact ⟨rfl, below_drewN (b1.trans (b2.mono b1.size)) q⟩


/-- -1 for a list that cannot have been sent -/
def longV (m : Int) (k n2 : Nat) : Int := if n2 % k = 0 ∧ 0 ≤ ((n2 / k : Nat) : Int) - m ∧ ((n2 / k : Nat) : Int) - m ≤ 40 then ((n2 / k : Nat) : Int) - m else -1
set_option maxRecDepth 100000 in
set_option maxHeartbeats 1000000 in
theorem spec_l07Long_c (w : World) (b : Nat) (m : Int) (hm0 : 0 ≤ m) (hm4 : m ≤ 4) (A : Option Addr) (n cap : Nat) (hn1 : 1 ≤ n) (hn4 : n ≤ 4) (c0 : w.cell? ⟨b, 0, none⟩ = some (.int .i64 m)) (c1 : w.cell? ⟨b, 1, none⟩ = some (.slice A n cap)) (A2 : Option Addr) (n2 cap2 : Nat) (hn2 : n2 ≤ 1048576) :
    Calls Try.prog 36 #[.pointer (some ⟨b, 0, none⟩), .slice A2 n2 cap2] w fun e w' => e = .returned (.int .i64 (longV m n n2)) ∧ ∃ q, w' = w.drewN q := by
  have hmod : (((n2 : Int)).tmod (n : Int)) = ((n2 % n : Nat) : Int) := by rw [Int.tmod_eq_emod_of_nonneg (by omega)]; push_cast; rfl
  have hdiv : (((n2 : Int)).tdiv (n : Int)) = ((n2 / n : Nat) : Int) := by rw [Int.tdiv_eq_ediv_of_nonneg (by omega)]; push_cast; rfl
  have hdb : n2 / n ≤ n2 := Nat.div_le_self _ _
  have hlv : longV m n n2 = if n2 % n = 0 ∧ 0 ≤ ((n2 / n : Nat) : Int) - m ∧ ((n2 / n : Nat) : Int) - m ≤ 40 then ((n2 / n : Nat) : Int) - m else -1 := rfl
  rw [hlv]
  obtain ⟨r, hr⟩ : ∃ r, n2 % n = r := ⟨_, rfl⟩
  obtain ⟨d, hd⟩ : ∃ d, n2 / n = d := ⟨_, rfl⟩
  rw [hr] at hmod
  rw [hd] at hdiv hdb
  rw [hr, hd]
  have hn0 : (n : Int) ≠ 0 := by omega
  have hw : IntKind.i64.wrap ((d : Int) - m) = (d : Int) - m := IntWalk.i64_in _ (by omega)
  clear hlv hr hd
  by_cases hr0 : r = 0
  · subst hr0
    have hm' : ((n2 : Int)).tmod (n : Int) = 0 := hmod
    clear hmod
    by_cases h0 : 0 ≤ (d : Int) - m
    · have h1 : ¬ ((d : Int) - m < 0) := by omega
      by_cases h2 : (d : Int) - m ≤ 40
      · have h3 : ¬ (40 < (d : Int) - m) := by omega
        rw [if_pos ⟨rfl, h0, h2⟩]
        go_enter Try.func36, Try.ntmps36
        go_wp2
        go_quiet (fail)
        go_wp2
        go_ret
        exact ⟨rfl, _, rfl⟩
      · have h3 : 40 < (d : Int) - m := by omega
        rw [if_neg (fun h => h2 h.2.2)]
        go_enter Try.func36, Try.ntmps36
        go_wp2
        go_quiet (fail)
        go_wp2
        go_ret
        exact ⟨rfl, _, rfl⟩
    · have h1 : (d : Int) - m < 0 := by omega
      rw [if_neg (fun h => h0 h.2.1)]
      go_enter Try.func36, Try.ntmps36
      go_wp2
      go_quiet (fail)
      go_wp2
      go_ret
      exact ⟨rfl, _, rfl⟩
  · rw [if_neg (fun h => hr0 h.1)]
    go_enter Try.func36, Try.ntmps36
    go_wp2
    go_quiet (fail)
    go_wp2
    go_ret
    exact ⟨rfl, _, rfl⟩

end Go.Proofs.Ytopeidmafalklaa
