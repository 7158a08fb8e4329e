/-
  Contracts: how many bits a soft list was made of, of the program and of the reference.
  Conditions: lengths at most 1048576.
  Plain: ways of a coder: tables of gains, step by step, and what is read back.
  Conditions: none.
  Plain: halves: divided by two is multiplied by a half; tables of logarithms of sums, step by step.
  Conditions: none.
  Plain: numbers between bounds that are 64ths; their sums, differences and joins.
  Conditions: as each theorem says.
  Plain: paths of a coder: states, metrics, and that two paths that differ send something different.
  Conditions: as each theorem says.
  Plain: tables of logarithms of sums over ways, between bounds that are metrics of paths; forward.
  Conditions: as each theorem says.
  Plain: blocks that hold a row.
  Conditions: none.
  slices.Chunk: what its iterator hands to a loop's body.
  Conditions: at most 1048576 elements, parts of 1 to 1048576.
  A row of bytes that a variable's box holds: appends onto it.
  Conditions: none.
-/
import Derived.Test.YtopeidmafalklaaPk03
import Derived.Test.YtopeidmafalklaaPk02
import Derived.Deep.QuietTactic
import Derived.BigQuiet
import Derived.Test.YtopeidmafalklaaPk01
import Derived.RangeFuncNested
import Derived.RangeFuncBound
import Derived.RangeFuncCalls
import Derived.RangeFuncLeaves
import Derived.RangeFuncBox
import Derived.Shelf.Abstract
import Derived.Shelf.RegionOpen
import Derived.OwnWalkIn
import Derived.TacticsInMore
import Derived.LoopNIn
import Derived.LoopIn
import Derived.Sort.QuietIn

namespace Go.Proofs.Ytopeidmafalklaa
open Go.RowKit

/-- a list of soft numbers that may have been sent -/
def sentB (m : Int) (ms : List Int) (xs : List Nat) : Bool := validCoderB m ms && softB xs && (xs.length % ms.length == 0)
def sentN (m : Int) (ms : List Int) (xs : List Nat) : Int := ((xs.length / ms.length : Nat) : Int) - m
def sentOk (m : Int) (ms : List Int) (xs : List Nat) : Bool := sentB m ms xs && decide (0 ≤ sentN m ms xs) && decide (sentN m ms xs ≤ 40)
def sentV (m : Int) (ms : List Int) (xs : List Nat) : Int := if sentB m ms xs then sentN m ms xs else 0


set_option maxRecDepth 100000 in
set_option maxHeartbeats 1000000 in
theorem impl_sentBits_c (w : World) (m : Int) (A : Option Addr) (n cap : Nat) (ms : List Int) (hl : ms.length = n) (hn : n ≤ 1048576) (hx : Sl w w.heap.size A (ms.map (Value.int .i64))) (A2 : Option Addr) (n2 cap2 : Nat) (xs : List Nat) (hl2 : xs.length = n2) (hn2 : n2 ≤ 1048576) (hy : Sl w w.heap.size A2 (xs.map (Value.float .f32))) :
    Calls Try.prog 42 #[.agg #[.int .i64 m, .slice A n cap], .slice A2 n2 cap2] w fun e w' => e = .returned (.tuple #[.int .i64 (sentV m ms xs), .bool (sentOk m ms xs)]) ∧ Below w.heap.size w w' := by
  obtain ⟨w1, e1⟩ : ∃ q : World, q = w.alloc (.cells #[.int .i64 m, .slice A n cap] 29) := ⟨_, rfl⟩
  have b1 : Below w.heap.size w w1 := by rw [e1]; exact (Below.refl _ _).alloc (Nat.le_refl _) _
  have z1 : w1.heap.size = w.heap.size + 1 := by rw [e1]; simp
  have hO : Obj w1 w.heap.size 29 #[.int .i64 m, .slice A n cap] := by rw [e1]; exact Obj.new _ _ _
  have HV := Lib.hid (impl_ValidCoder_c w1 m A n cap ms hl hn ((hx.below b1).more b1.size))
  have HS := Lib.hid (fun (W : World) (hW : Below w1.heap.size w1 W) => impl_IsSoft_c W w.heap.size A2 n2 cap2 xs hl2 ((hy.below b1).below (hW.mono b1.size)))
  obtain ⟨⟨C0, C1⟩, -⟩ := hO.two
  have HO := Lib.hid hO
  clear hx hy hO
  cases hv : validCoderB m ms
  · have e2 : sentV m ms xs = 0 := by unfold sentV sentB; rw [hv]; rfl
    have e3 : sentOk m ms xs = false := by unfold sentOk sentB; rw [hv]; rfl
    rw [e2, e3]
    rw [hv] at HV
    clear e2 e3 hv
    go_enter Try.func42, Try.ntmps42
    go_wp2_with (rw [← e1]; clear e1)
    refine HV.out.mono ?_
    rintro e w2 ⟨rfl, b2⟩
    go_wp2
    go_ret2
    exact ⟨rfl, b1.trans (b2.mono b1.size)⟩
  · rw [hv] at HV
    obtain ⟨hm1, hm4, hk1, hk4, -⟩ := vc_facts hv
    rw [hl] at hk1 hk4
    cases hs : softB xs
    · have e2 : sentV m ms xs = 0 := by unfold sentV sentB; rw [hs, Bool.and_false]; rfl
      have e3 : sentOk m ms xs = false := by unfold sentOk sentB; rw [hs, Bool.and_false]; rfl
      rw [e2, e3]
      rw [hs] at HS
      clear e2 e3 hv hs
      go_enter Try.func42, Try.ntmps42
      go_wp2_with (rw [← e1]; clear e1)
      refine HV.out.mono ?_
      rintro e w2 ⟨rfl, b2⟩
      go_wp2_with fail
      refine (HS.out w2 b2).mono ?_
      rintro e w3 ⟨rfl, q, rfl⟩
      go_wp2
      go_ret2
      exact ⟨rfl, below_drewN (b1.trans (b2.mono b1.size)) q⟩
    · rw [hs] at HS
      have hmod : (((n2 : Int)).tmod (n : Int)) = ((n2 % n : Nat) : Int) := by rw [Int.tmod_eq_emod_of_nonneg (by omega)]; push_cast; rfl
      have hdiv : (((n2 : Int)).tdiv (n : Int)) = ((n2 / n : Nat) : Int) := by rw [Int.tdiv_eq_ediv_of_nonneg (by omega)]; push_cast; rfl
      have hdb : n2 / n ≤ n2 := Nat.div_le_self _ _
      obtain ⟨r, hr⟩ : ∃ r, n2 % n = r := ⟨_, rfl⟩
      obtain ⟨d, hd⟩ : ∃ d, n2 / n = d := ⟨_, rfl⟩
      rw [hr] at hmod
      rw [hd] at hdiv hdb
      have hn0 : (n : Int) ≠ 0 := by omega
      have e4 : sentN m ms xs = (d : Int) - m := by unfold sentN; rw [hl, hl2, hd]
      by_cases hr0 : r = 0
      · have eB : sentB m ms xs = true := by unfold sentB; rw [hv, hs, hl, hl2, hr, hr0]; rfl
        have e2 : sentV m ms xs = (d : Int) - m := by unfold sentV; rw [eB, if_pos rfl, e4]
        have e3 : sentOk m ms xs = (decide (0 ≤ (d : Int) - m) && decide ((d : Int) - m ≤ 40)) := by unfold sentOk; rw [eB, e4, Bool.true_and]
        rw [e2, e3]
        subst hr0
        have hm' : ((n2 : Int)).tmod (n : Int) = 0 := hmod
        clear e2 e3 e4 eB hv hs hr hd hmod
        go_enter Try.func42, Try.ntmps42
        go_wp2_with (rw [← e1]; clear e1)
        refine HV.out.mono ?_
        rintro e w2 ⟨rfl, b2⟩
        clear C0 C1
        obtain ⟨⟨C0, C1⟩, -⟩ := (HO.out.below b2 HO.out.lt).two
        go_wp2_with fail
        refine (HS.out w2 b2).mono ?_
        rintro e w3 ⟨rfl, q, rfl⟩
        go_wp2
        go_quiet (fail)
        have hw : IntKind.i64.wrap ((d : Int) - m) = (d : Int) - m := IntWalk.i64_in _ (by omega)
        by_cases h0 : 0 ≤ (d : Int) - m
        · have h1 : (decide (0 ≤ (d : Int) - m)) = true := decide_eq_true h0
          go_wp2
          go_ret2
          exact ⟨by rw [decide_eq_true h0, Bool.true_and]; rfl, below_drewN (b1.trans (b2.mono b1.size)) _⟩
        · have h1 : (decide (0 ≤ (d : Int) - m)) = false := decide_eq_false h0
          go_wp2
          go_ret2
          exact ⟨by rw [show decide (m ≤ (d : Int)) = false from decide_eq_false (by omega)]; rfl, below_drewN (b1.trans (b2.mono b1.size)) _⟩
      · have eB : sentB m ms xs = false := by unfold sentB; rw [hv, hs, hl, hl2, hr]; simp [hr0]
        have e2 : sentV m ms xs = 0 := by unfold sentV; rw [eB]; rfl
        have e3 : sentOk m ms xs = false := by unfold sentOk; rw [eB]; rfl
        rw [e2, e3]
        clear e2 e3 e4 eB hv hs hr hd
        go_enter Try.func42, Try.ntmps42
        go_wp2_with (rw [← e1]; clear e1)
        refine HV.out.mono ?_
        rintro e w2 ⟨rfl, b2⟩
        clear C0 C1
        obtain ⟨⟨C0, C1⟩, -⟩ := (HO.out.below b2 HO.out.lt).two
        go_wp2_with fail
        refine (HS.out w2 b2).mono ?_
        rintro e w3 ⟨rfl, q, rfl⟩
        go_wp2
        go_ret2
        exact ⟨rfl, below_drewN (b1.trans (b2.mono b1.size)) q⟩


/-- -1 for a list that cannot have been sent -/
def longV (m : Int) (k n2 : Nat) : Int := if n2 % k = 0 ∧ 0 ≤ ((n2 / k : Nat) : Int) - m ∧ ((n2 / k : Nat) : Int) - m ≤ 40 then ((n2 / k : Nat) : Int) - m else -1
set_option maxRecDepth 100000 in
set_option maxHeartbeats 1000000 in
theorem spec_l07Long_c (w : World) (b : Nat) (m : Int) (hm0 : 0 ≤ m) (hm4 : m ≤ 4) (A : Option Addr) (n cap : Nat) (hn1 : 1 ≤ n) (hn4 : n ≤ 4) (c0 : w.cell? ⟨b, 0, none⟩ = some (.int .i64 m)) (c1 : w.cell? ⟨b, 1, none⟩ = some (.slice A n cap)) (A2 : Option Addr) (n2 cap2 : Nat) (hn2 : n2 ≤ 1048576) :
    Calls Try.prog 36 #[.pointer (some ⟨b, 0, none⟩), .slice A2 n2 cap2] w fun e w' => e = .returned (.int .i64 (longV m n n2)) ∧ ∃ q, w' = w.drewN q := by
  have hmod : (((n2 : Int)).tmod (n : Int)) = ((n2 % n : Nat) : Int) := by rw [Int.tmod_eq_emod_of_nonneg (by omega)]; push_cast; rfl
  have hdiv : (((n2 : Int)).tdiv (n : Int)) = ((n2 / n : Nat) : Int) := by rw [Int.tdiv_eq_ediv_of_nonneg (by omega)]; push_cast; rfl
  have hdb : n2 / n ≤ n2 := Nat.div_le_self _ _
  have hlv : longV m n n2 = if n2 % n = 0 ∧ 0 ≤ ((n2 / n : Nat) : Int) - m ∧ ((n2 / n : Nat) : Int) - m ≤ 40 then ((n2 / n : Nat) : Int) - m else -1 := rfl
  rw [hlv]
  obtain ⟨r, hr⟩ : ∃ r, n2 % n = r := ⟨_, rfl⟩
  obtain ⟨d, hd⟩ : ∃ d, n2 / n = d := ⟨_, rfl⟩
  rw [hr] at hmod
  rw [hd] at hdiv hdb
  rw [hr, hd]
  have hn0 : (n : Int) ≠ 0 := by omega
  have hw : IntKind.i64.wrap ((d : Int) - m) = (d : Int) - m := IntWalk.i64_in _ (by omega)
  clear hlv hr hd
  by_cases hr0 : r = 0
  · subst hr0
    have hm' : ((n2 : Int)).tmod (n : Int) = 0 := hmod
    clear hmod
    by_cases h0 : 0 ≤ (d : Int) - m
    · have h1 : ¬ ((d : Int) - m < 0) := by omega
      by_cases h2 : (d : Int) - m ≤ 40
      · have h3 : ¬ (40 < (d : Int) - m) := by omega
        rw [if_pos ⟨rfl, h0, h2⟩]
        go_enter Try.func36, Try.ntmps36
        go_wp2
        go_quiet (fail)
        go_wp2
        go_ret
        exact ⟨rfl, _, rfl⟩
      · have h3 : 40 < (d : Int) - m := by omega
        rw [if_neg (fun h => h2 h.2.2)]
        go_enter Try.func36, Try.ntmps36
        go_wp2
        go_quiet (fail)
        go_wp2
        go_ret
        exact ⟨rfl, _, rfl⟩
    · have h1 : (d : Int) - m < 0 := by omega
      rw [if_neg (fun h => h0 h.2.1)]
      go_enter Try.func36, Try.ntmps36
      go_wp2
      go_quiet (fail)
      go_wp2
      go_ret
      exact ⟨rfl, _, rfl⟩
  · rw [if_neg (fun h => hr0 h.1)]
    go_enter Try.func36, Try.ntmps36
    go_wp2
    go_quiet (fail)
    go_wp2
    go_ret
    exact ⟨rfl, _, rfl⟩

end Go.Proofs.Ytopeidmafalklaa


namespace Go.Proofs.Ytopeidmafalklaa
open Go.RowKit

/-- which states are reached, with which gain (up to the bits of a NaN), and from where -/
structure Tb where
  h : List Bool
  g : List (Option Nat)
  f : List Int
def gtO (x y : Option Nat) : Bool := ford .f32 x y == some Ordering.gt
theorem gt_fl (x y : Nat) : (FloatKind.f32.format.order x y == some Ordering.gt) = gtO (fl .f32 x) (fl .f32 y) := by rw [order_fl]; rfl
def newT (S : Nat) : Tb := ⟨List.replicate S false, List.replicate S (some 0), List.replicate S 0⟩
def startT (S : Nat) : Tb := ⟨(List.replicate S false).set 0 true, List.replicate S (some 0), List.replicate S 0⟩
/-- better than what is there -/
def betT (T : Tb) (to : Nat) (x : Option Nat) : Bool := !(T.h.getD to false) || gtO x (T.g.getD to none)
def updT (T : Tb) (to : Nat) (x : Option Nat) (s : Int) : Tb := if betT T to x then ⟨T.h.set to true, T.g.set to x, T.f.set to s⟩ else T
/-- the state behind a bit -/
def toS (M s : Nat) (b : Bool) : Nat := ((2 * (s : Int) + bitI b) % 2 ^ M).toNat
def edgeX (ms : List Int) (part : List Nat) (T0 : Tb) (s : Nat) (b : Bool) : Option Nat := gainO (T0.g.getD s none) (sentL ms (2 * (s : Int) + bitI b)) part ms.length
def edgeT (M : Nat) (ms : List Int) (part : List Nat) (last : Bool) (T0 : Tb) (s : Nat) (b : Bool) (T : Tb) : Tb :=
  if T0.h.getD s false && !(b && last) then updT T (toS M s b) (edgeX ms part T0 s b) s else T
def rowT (M : Nat) (ms : List Int) (part : List Nat) (last : Bool) (T0 : Tb) : Nat → Tb
  | 0 => newT (2 ^ M)
  | s + 1 => edgeT M ms part last T0 s true (edgeT M ms part last T0 s false (rowT M ms part last T0 s))
def partL (m : Nat) (soft : List Nat) (t : Nat) : List Nat := (soft.drop (t * m)).take m
def tabT (M : Nat) (ms : List Int) (soft : List Nat) (n : Nat) : Nat → Tb
  | 0 => startT (2 ^ M)
  | t + 1 => rowT M ms (partL ms.length soft t) (decide (n ≤ t)) (tabT M ms soft n t) (2 ^ M)
/-- the state, so many steps from the end -/
def backS (M : Nat) (ms : List Int) (soft : List Nat) (n : Nat) : Nat → Int
  | 0 => 0
  | k + 1 => (tabT M ms soft n (n + M - k)).f.getD (backS M ms soft n k).toNat 0
def wayBits (M : Nat) (ms : List Int) (soft : List Nat) (n : Nat) : List Bool := (List.range n).map fun t => backS M ms soft n (n + M - 1 - t) % 2 == 1
def wayGain (M : Nat) (ms : List Int) (soft : List Nat) (n : Nat) : Option Nat := (tabT M ms soft n (n + M)).g.getD 0 none
/-! sizes -/
structure Sz (S : Nat) (T : Tb) : Prop where
  h : T.h.length = S
  g : T.g.length = S
  f : T.f.length = S
  b : ∀ x ∈ T.f, 0 ≤ x ∧ x < S
theorem sz_new {S : Nat} (h : 1 ≤ S) : Sz S (newT S) := ⟨by simp [newT], by simp [newT], by simp [newT], fun x hx => by
  have := List.eq_of_mem_replicate (show x ∈ List.replicate S (0 : Int) from hx)
  omega⟩
theorem sz_start {S : Nat} (h : 1 ≤ S) : Sz S (startT S) := ⟨by simp [startT], by simp [startT], by simp [startT], fun x hx => by
  have := List.eq_of_mem_replicate (show x ∈ List.replicate S (0 : Int) from hx)
  omega⟩
theorem sz_upd {S : Nat} {T : Tb} (h : Sz S T) (to : Nat) (x : Option Nat) {s : Int} (h0 : 0 ≤ s) (h1 : s < S) : Sz S (updT T to x s) := by
  unfold updT
  split
  · refine ⟨by simp [h.h], by simp [h.g], by simp [h.f], fun y hy => ?_⟩
    rcases List.mem_or_eq_of_mem_set hy with h2 | h2
    · exact h.b y h2
    · rw [h2]; exact ⟨h0, h1⟩
  · exact h
theorem sz_edge {M S : Nat} {ms : List Int} {part : List Nat} {last : Bool} {T0 T : Tb} (h : Sz S T) {s : Nat} (hs : s < S) (b : Bool) : Sz S (edgeT M ms part last T0 s b T) := by
  unfold edgeT
  split
  · exact sz_upd h _ _ (by omega) (by omega)
  · exact h
theorem sz_row {M : Nat} {ms : List Int} {part : List Nat} {last : Bool} {T0 : Tb} : ∀ s, s ≤ 2 ^ M → Sz (2 ^ M) (rowT M ms part last T0 s)
  | 0, _ => sz_new (Nat.pow_pos (by decide))
  | s + 1, hs => sz_edge (sz_edge (sz_row s (by omega)) (by omega) _) (by omega) _
theorem sz_tab {M : Nat} {ms : List Int} {soft : List Nat} {n : Nat} : ∀ t, Sz (2 ^ M) (tabT M ms soft n t)
  | 0 => sz_start (Nat.pow_pos (by decide))
  | _ + 1 => sz_row _ (Nat.le_refl _)
theorem Sz.at_ {S : Nat} {T : Tb} (h : Sz S T) (hS : 1 ≤ S) (k : Nat) : 0 ≤ T.f.getD k 0 ∧ T.f.getD k 0 < S := by
  by_cases hk : k < T.f.length
  · have := h.b (T.f[k]) (List.getElem_mem hk)
    simpa [List.getD, hk] using this
  · have : T.f.getD k 0 = 0 := by simp [List.getD, hk]
    omega
theorem backS_bd {M : Nat} {ms : List Int} {soft : List Nat} {n : Nat} : ∀ k, 0 ≤ backS M ms soft n k ∧ backS M ms soft n k < ((2 ^ M : Nat) : Int)
  | 0 => ⟨Int.le_refl _, by have : 0 < 2 ^ M := Nat.pow_pos (by decide); show (0 : Int) < _; omega⟩
  | k + 1 => (sz_tab (M := M) (ms := ms) (soft := soft) (n := n) (n + M - k)).at_ (Nat.pow_pos (by decide)) _
theorem toS_lt {M s : Nat} (b : Bool) : toS M s b < 2 ^ M := by
  unfold toS
  have h0 : (0 : Int) < 2 ^ M := Int.pow_pos (by decide)
  have h1 := Int.emod_nonneg (2 * (s : Int) + bitI b) (Int.ne_of_gt h0)
  have h2 := Int.emod_lt_of_pos (2 * (s : Int) + bitI b) h0
  have h3 : ((2 ^ M : Nat) : Int) = 2 ^ M := by push_cast; rfl
  omega
theorem partL_get {m : Nat} {soft : List Nat} {t i : Nat} (hi : i < m) : (partL m soft t).getD i 0 = soft.getD (t * m + i) 0 := by
  unfold partL
  simp [List.getD, hi]
theorem partL_len {m : Nat} {soft : List Nat} {t : Nat} (h : (t + 1) * m ≤ soft.length) : (partL m soft t).length = m := by
  unfold partL
  have : (t + 1) * m = t * m + m := Nat.succ_mul t m
  simp
  omega

end Go.Proofs.Ytopeidmafalklaa


namespace Go.Proofs.Ytopeidmafalklaa
open Ieee Go.RowKit

theorem cut_scale (neg : Bool) (n d k : Nat) (hn : n ≠ 0) : Toward.even.cut neg (n * 2 ^ k) (d + k) = Toward.even.cut neg n d := by
  have hp : 0 < 2 ^ k := Nat.two_pow_pos k
  unfold Toward.cut
  rw [log2_mul_pow _ _ hn]
  have e1 : min (d + k) (n.log2 + k + 2) = min d (n.log2 + 2) + k := by omega
  simp only [e1, Nat.one_shiftLeft]
  obtain ⟨p, hpp⟩ : ∃ p, min d (n.log2 + 2) = p := ⟨_, rfl⟩
  rw [hpp, Nat.pow_add, Nat.mul_div_mul_right _ _ hp, Nat.mul_mod_mul_right]
  have e2 : (decide (2 ^ p * 2 ^ k < 2 * (n % 2 ^ p * 2 ^ k))) = decide (2 ^ p < 2 * (n % 2 ^ p)) := by
    rw [← Nat.mul_assoc]
    exact decide_eq_decide.2 (Nat.mul_lt_mul_right hp)
  have e3 : (2 ^ p * 2 ^ k == 2 * (n % 2 ^ p * 2 ^ k)) = (2 ^ p == 2 * (n % 2 ^ p)) := by
    rw [← Nat.mul_assoc]
    by_cases h : 2 ^ p = 2 * (n % 2 ^ p)
    · have : 2 ^ p * 2 ^ k = 2 * (n % 2 ^ p) * 2 ^ k := congrArg (· * 2 ^ k) h
      rw [beq_iff_eq.2 h, beq_iff_eq.2 this]
    · have : ¬ 2 ^ p * 2 ^ k = 2 * (n % 2 ^ p) * 2 ^ k := fun q => h (Nat.eq_of_mul_eq_mul_right hp q)
      rw [beq_eq_false_iff_ne.2 h, beq_eq_false_iff_ne.2 this]
  rw [e2, e3]
theorem nearest_scale (f : Format) (neg : Bool) (mag : Nat) (place : Int) (k : Nat) : f.nearest neg (mag * 2 ^ k) (place - k) = f.nearest neg mag place := by
  by_cases h0 : mag = 0
  · subst h0
    rw [Nat.zero_mul]
    unfold Format.nearest
    rfl
  have hp : 0 < 2 ^ k := Nat.two_pow_pos k
  have h1 : mag * 2 ^ k ≠ 0 := by
    intro h
    rcases Nat.mul_eq_zero.1 h with q | q
    · exact h0 q
    · omega
  unfold Format.nearest
  rw [if_neg h0, if_neg h1, log2_mul_pow _ _ h0]
  have e0 : place - (k : Int) + ((mag.log2 + k : Nat) : Int) - (f.fractionBits : Int) = place + (mag.log2 : Int) - (f.fractionBits : Int) := by omega
  rw [e0]
  obtain ⟨last, hlast⟩ : ∃ l, max (place + (mag.log2 : Int) - (f.fractionBits : Int)) f.leastPlace = l := ⟨_, rfl⟩
  rw [hlast]
  dsimp only
  have key : Toward.even.cut neg ((mag * 2 ^ k) <<< (place - k - last).toNat) (last - (place - k)).toNat = Toward.even.cut neg (mag <<< (place - last).toNat) (last - place).toNat := by
    rw [Nat.shiftLeft_eq, Nat.shiftLeft_eq]
    rcases Int.le_total place last with h | h
    · rw [show (place - last).toNat = 0 by omega, show (place - k - last).toNat = 0 by omega, Nat.pow_zero, Nat.mul_one, Nat.mul_one, show (last - (place - k)).toNat = (last - place).toNat + k by omega]
      exact cut_scale neg mag _ k h0
    · obtain ⟨e, he⟩ : ∃ e : Nat, (place - last).toNat = e := ⟨_, rfl⟩
      have hm : mag * 2 ^ e ≠ 0 := by
        have := Nat.two_pow_pos e
        intro q
        rcases Nat.mul_eq_zero.1 q with q | q
        · exact h0 q
        · omega
      rw [he, show (last - place).toNat = 0 by omega]
      rcases Nat.le_total e k with h2 | h2
      · rw [show (place - k - last).toNat = 0 by omega, show (last - (place - k)).toNat = 0 + (k - e) by omega, Nat.pow_zero, Nat.mul_one]
        have := cut_scale neg (mag * 2 ^ e) 0 (k - e) hm
        rw [Nat.mul_assoc, ← Nat.pow_add, show e + (k - e) = k by omega] at this
        exact this
      · rw [show (place - k - last).toNat = e - k by omega, show (last - (place - k)).toNat = 0 by omega, Nat.mul_assoc, ← Nat.pow_add, show k + (e - k) = e by omega]
  rw [key]
/-- divided by two is multiplied by a half -/
theorem half_eq (a : Nat) : floatBits .quo .f32 a 1073741824 = floatBits .mul .f32 1056964608 a := by
  by_cases hn : nanB .f32 a = true
  · rw [floatBits_nan (.inl hn), floatBits_nan (.inr hn)]
  have hn' : nanB .f32 a = false := by simpa using hn
  have r2 : single.read 1073741824 = .number false 8388608 (-22) := by decide
  have rh : single.read 1056964608 = .number false 8388608 (-24) := by decide
  show ((single.read a).quotient (single.fractionBits + 2) (single.read 1073741824)).map single.write = ((single.read 1056964608).product (single.read a)).map single.write
  rw [r2, rh]
  rcases nn_abs hn' with q | q
  · rw [readF q]
    obtain ⟨m, hm⟩ : ∃ m, manF (absF a) = m := ⟨_, rfl⟩
    have hml : m < 16777216 := by rw [← hm]; exact manF_lt _
    obtain ⟨i, hi⟩ : ∃ i : Int, -149 + (plcF (absF a) : Int) = i := ⟨_, rfl⟩
    rw [hm, hi]
    have hfb : single.fractionBits = 23 := rfl
    have hl23 : Nat.log2 8388608 = 23 := by decide
    have hlog : m.log2 < 24 := by
      by_cases h0 : m = 0
      · subst h0; decide
      · exact (Nat.log2_lt h0).2 (by omega)
    unfold Datum.quotient Datum.product
    simp only [hfb, hl23, Nat.reduceAdd, Bool.false_xor, Bool.xor_false, Option.map_some]
    rw [if_neg (by decide)]
    simp only [Option.map_some, Option.some.injEq]
    obtain ⟨e, he⟩ : ∃ e, 48 - m.log2 = 23 + e := ⟨25 - m.log2, by omega⟩
    rw [he, Nat.shiftLeft_eq, Nat.pow_add, ← Nat.mul_assoc, Nat.mul_right_comm m (2 ^ 23) (2 ^ e), show (2 : Nat) ^ 23 = 8388608 by decide, Nat.mul_div_cancel _ (by decide), Nat.mul_mod_left]
    show single.nearest (sgnF a) (2 * (m * 2 ^ e) + (0 != 0 : Bool).toNat) (i - -22 - ((23 + e : Nat) : Int) - 1) = single.nearest (sgnF a) (8388608 * m) (-24 + i)
    rw [show 2 * (m * 2 ^ e) + (0 != 0 : Bool).toNat = m * 2 ^ (e + 1) by rw [Nat.pow_succ]; show 2 * (m * 2 ^ e) = m * (2 ^ e * 2); rw [Nat.mul_comm 2, Nat.mul_assoc], show 8388608 * m = m * 2 ^ 23 by rw [show (2 : Nat) ^ 23 = 8388608 by decide]; omega, show i - -22 - ((23 + e : Nat) : Int) - 1 = (i - 1) - ((e + 1 : Nat) : Int) by omega, show -24 + i = (i - 1) - ((23 : Nat) : Int) by omega, nearest_scale, nearest_scale]
  · rw [read_infS q]
    rfl
theorem half_eqO (g : Option Nat) : fop .quo .f32 g (some 1073741824) = fop .mul .f32 (some 1056964608) g := by
  cases g with
  | none => rfl
  | some a => exact half_eq a

/-! ### tables -/
abbrev St := Option (Option Nat)
def halfO (ms : List Int) (part : List Nat) (s : Nat) (b : Bool) : Option Nat := fop .mul .f32 (some 1056964608) (gainO (some 0) (sentL ms (2 * (s : Int) + bitI b)) part ms.length)
def noneR (S : Nat) : List St := List.replicate S none
def oneR (S : Nat) : List St := (List.replicate S none).set 0 (some (some 0))
def fwdE (M : Nat) (ms : List Int) (part : List Nat) (last : Bool) (a : List St) (s : Nat) (b : Bool) (T : List St) : List St :=
  if b && last then T else T.set (toS M s b) (joinS (T.getD (toS M s b) none) (plusS (a.getD s none) (halfO ms part s b)))
def bwdE (M : Nat) (ms : List Int) (part : List Nat) (last : Bool) (a : List St) (s : Nat) (b : Bool) (T : List St) : List St :=
  if b && last then T else T.set s (joinS (T.getD s none) (plusS (a.getD (toS M s b) none) (halfO ms part s b)))
def fwdR (M : Nat) (ms : List Int) (part : List Nat) (last : Bool) (a : List St) : Nat → List St
  | 0 => noneR (2 ^ M)
  | s + 1 => fwdE M ms part last a s true (fwdE M ms part last a s false (fwdR M ms part last a s))
def bwdR (M : Nat) (ms : List Int) (part : List Nat) (last : Bool) (a : List St) : Nat → List St
  | 0 => noneR (2 ^ M)
  | s + 1 => bwdE M ms part last a s true (bwdE M ms part last a s false (bwdR M ms part last a s))
def fwdT (M : Nat) (ms : List Int) (soft : List Nat) (n : Nat) : Nat → List St
  | 0 => oneR (2 ^ M)
  | t + 1 => fwdR M ms (partL ms.length soft t) (decide (n ≤ t)) (fwdT M ms soft n t) (2 ^ M)
/-- so many steps from the end -/
def bwdT (M : Nat) (ms : List Int) (soft : List Nat) (n : Nat) : Nat → List St
  | 0 => oneR (2 ^ M)
  | k + 1 => bwdR M ms (partL ms.length soft (n + M - 1 - k)) (decide (n ≤ n + M - 1 - k)) (bwdT M ms soft n k) (2 ^ M)
/-- what a move adds to a bit's sum -/
def sumX (x : St) (y : St) (h : Option Nat) (u : St) : St := match x, y with
  | some p, some q => joinS u (some (fop .add .f32 (fop .add .f32 p h) q))
  | _, _ => u
def sumE (M : Nat) (ms : List Int) (part : List Nat) (a b : List St) (s : Nat) (c : Bool) (u : St) : St := sumX (a.getD s none) (b.getD (toS M s c) none) (halfO ms part s c) u
def sumR (M : Nat) (ms : List Int) (part : List Nat) (a b : List St) (c : Bool) : Nat → St
  | 0 => none
  | s + 1 => sumE M ms part a b s c (sumR M ms part a b c s)
def sumT (M : Nat) (ms : List Int) (soft : List Nat) (n t : Nat) (c : Bool) : St := sumR M ms (partL ms.length soft t) (fwdT M ms soft n t) (bwdT M ms soft n (n + M - (t + 1))) c (2 ^ M)
def outS (x y : St) : Option (Option Nat) := match x, y with
  | some p, some q => some (fop .sub .f32 q p)
  | _, _ => none
def outT (M : Nat) (ms : List Int) (soft : List Nat) (n : Nat) : Nat → Option (List (Option Nat))
  | 0 => some []
  | t + 1 => (outT M ms soft n t).bind fun l => (outS (sumT M ms soft n t false) (sumT M ms soft n t true)).map fun z => l ++ [z]
/-! sizes -/
theorem fwdE_len {M : Nat} {ms : List Int} {part : List Nat} {last : Bool} {a T : List St} {s : Nat} {b : Bool} : (fwdE M ms part last a s b T).length = T.length := by
  unfold fwdE
  split
  · rfl
  · exact List.length_set ..
theorem bwdE_len {M : Nat} {ms : List Int} {part : List Nat} {last : Bool} {a T : List St} {s : Nat} {b : Bool} : (bwdE M ms part last a s b T).length = T.length := by
  unfold bwdE
  split
  · rfl
  · exact List.length_set ..
theorem fwdR_len {M : Nat} {ms : List Int} {part : List Nat} {last : Bool} {a : List St} : ∀ s, (fwdR M ms part last a s).length = 2 ^ M
  | 0 => List.length_replicate ..
  | s + 1 => by unfold fwdR; rw [fwdE_len, fwdE_len]; exact fwdR_len s
theorem bwdR_len {M : Nat} {ms : List Int} {part : List Nat} {last : Bool} {a : List St} : ∀ s, (bwdR M ms part last a s).length = 2 ^ M
  | 0 => List.length_replicate ..
  | s + 1 => by unfold bwdR; rw [bwdE_len, bwdE_len]; exact bwdR_len s
theorem oneR_len (S : Nat) : (oneR S).length = S := by unfold oneR; rw [List.length_set, List.length_replicate]
theorem fwdT_len {M : Nat} {ms : List Int} {soft : List Nat} {n : Nat} : ∀ t, (fwdT M ms soft n t).length = 2 ^ M
  | 0 => oneR_len _
  | _ + 1 => fwdR_len _
theorem bwdT_len {M : Nat} {ms : List Int} {soft : List Nat} {n : Nat} : ∀ t, (bwdT M ms soft n t).length = 2 ^ M
  | 0 => oneR_len _
  | _ + 1 => bwdR_len _
theorem joinS_none (x : St) : joinS x none = x := by cases x <;> rfl
theorem set_same {T : List St} {k : Nat} : T.set k (T.getD k none) = T := by
  by_cases h : k < T.length
  · refine List.ext_getElem (by simp) fun i h1 h2 => ?_
    rw [List.getElem_set]
    split
    · rename_i e; subst e; simp [List.getD, h]
    · rfl
  · exact List.set_eq_of_length_le (by omega)
theorem fwdE_not {M : Nat} {ms : List Int} {part : List Nat} {last : Bool} {a T : List St} {s : Nat} {b : Bool} (h : a.getD s none = none) : fwdE M ms part last a s b T = T := by
  unfold fwdE
  split
  · rfl
  · rw [h]
    show T.set _ (joinS _ none) = T
    rw [joinS_none, set_same]
theorem fwdE_last {M : Nat} {ms : List Int} {part : List Nat} {a T : List St} {s : Nat} : fwdE M ms part true a s true T = T := rfl
theorem fwdE_yes {M : Nat} {ms : List Int} {part : List Nat} {last : Bool} {a T : List St} {s : Nat} {b : Bool} (h : (b && last) = false) : fwdE M ms part last a s b T = T.set (toS M s b) (joinS (T.getD (toS M s b) none) (plusS (a.getD s none) (halfO ms part s b))) := by
  unfold fwdE; rw [h]; rfl
theorem bwdE_not {M : Nat} {ms : List Int} {part : List Nat} {last : Bool} {a T : List St} {s : Nat} {b : Bool} (h : a.getD (toS M s b) none = none) : bwdE M ms part last a s b T = T := by
  unfold bwdE
  split
  · rfl
  · rw [h]
    show T.set _ (joinS _ none) = T
    rw [joinS_none, set_same]
theorem bwdE_last {M : Nat} {ms : List Int} {part : List Nat} {a T : List St} {s : Nat} : bwdE M ms part true a s true T = T := rfl
theorem bwdE_yes {M : Nat} {ms : List Int} {part : List Nat} {last : Bool} {a T : List St} {s : Nat} {b : Bool} (h : (b && last) = false) : bwdE M ms part last a s b T = T.set s (joinS (T.getD s none) (plusS (a.getD (toS M s b) none) (halfO ms part s b))) := by
  unfold bwdE; rw [h]; rfl
theorem fwdR_not {M : Nat} {ms : List Int} {part : List Nat} {last : Bool} {a : List St} {s : Nat} (h : a.getD s none = none) : fwdR M ms part last a (s + 1) = fwdR M ms part last a s := by
  show fwdE _ _ _ _ _ _ true (fwdE _ _ _ _ _ _ false _) = _
  rw [fwdE_not h, fwdE_not h]

end Go.Proofs.Ytopeidmafalklaa


namespace Go.Proofs.Ytopeidmafalklaa
open Ieee Go.RowKit

/-- a 64th, in units of 2 to the power of -149 -/
def gG : Nat := 2 ^ 143
theorem gG_pos : 0 < gG := Nat.two_pow_pos 143
def gw (n : Nat) : Nat := (120 + n.log2) * 8388608 + n * 2 ^ (23 - n.log2)
theorem gw_val {n : Nat} (h0 : n ≠ 0) (h : n < 16777216) : VF (gw n) = n * gG ∧ gw n < 2139095040 := by
  obtain ⟨l, hl⟩ : ∃ l, n.log2 = l := ⟨_, rfl⟩
  have a1 : 2 ^ l ≤ n := by rw [← hl]; exact Nat.log2_self_le h0
  have a2 : n < 2 ^ (l + 1) := by rw [← hl]; exact Nat.lt_log2_self
  have a3 : l < 24 := by rw [← hl]; exact (Nat.log2_lt h0).2 (by omega)
  obtain ⟨m, hm⟩ : ∃ m, n * 2 ^ (23 - l) = m := ⟨_, rfl⟩
  have m1 : 8388608 ≤ m := by
    have := Nat.mul_le_mul_right (2 ^ (23 - l)) a1
    rw [← Nat.pow_add, show l + (23 - l) = 23 by omega, hm] at this
    exact this
  have m2 : m < 16777216 := by
    have := Nat.mul_lt_mul_of_pos_right a2 (Nat.two_pow_pos (23 - l))
    rw [← Nat.pow_add, show l + 1 + (23 - l) = 24 by omega, hm] at this
    exact this
  have hw : gw n = (120 + l) * 8388608 + m := by unfold gw; rw [hl, hm]
  have e1 : manF (gw n) = m := by
    unfold manF
    rw [hw, if_neg (by omega)]
    omega
  have e2 : plcF (gw n) = 120 + l := by unfold plcF; rw [hw]; omega
  refine ⟨?_, by rw [hw]; omega⟩
  unfold VF gG
  rw [e1, e2, ← hm, Nat.mul_assoc, ← Nat.pow_add, show 23 - l + (120 + l) = 143 by omega]
def gW (b : Int) : Nat := if b = 0 then 0 else if b < 0 then gw b.natAbs + 2147483648 else gw b.natAbs
theorem gW_val {b : Int} (h : b.natAbs < 16777216) : absF (gW b) < 2139095040 ∧ valF (gW b) = b * (gG : Int) := by
  unfold gW
  split
  · rename_i hb
    subst hb
    exact ⟨by decide, by rw [Int.zero_mul]; decide +kernel⟩
  rename_i hb
  obtain ⟨h1, h2⟩ := gw_val (n := b.natAbs) (by omega) h
  split
  · rename_i hn
    have a1 : absF (gw b.natAbs + 2147483648) = gw b.natAbs := by unfold absF; omega
    have a2 : sgnF (gw b.natAbs + 2147483648) = true := by
      unfold sgnF
      rw [show (gw b.natAbs + 2147483648) / 2147483648 = 1 by omega]
      rfl
    refine ⟨by rw [a1]; exact h2, ?_⟩
    rw [val_negF a2, a1, h1, Int.natCast_mul, ← Int.neg_mul, show -(b.natAbs : Int) = b by omega]
  · rename_i hn
    have a1 : absF (gw b.natAbs) = gw b.natAbs := by unfold absF; omega
    have a2 : sgnF (gw b.natAbs) = false := by
      unfold sgnF
      rw [show gw b.natAbs / 2147483648 = 0 by omega]
      rfl
    refine ⟨by rw [a1]; exact h2, ?_⟩
    rw [val_posF a2, a1, h1, Int.natCast_mul, show (b.natAbs : Int) = b by omega]
theorem g_le {a b : Int} (h : a ≤ b) : a * (gG : Int) ≤ b * (gG : Int) := Int.mul_le_mul_of_nonneg_right h (by omega)
theorem g_lt {a b : Int} (h : a * (gG : Int) < b * (gG : Int)) : a < b := Int.lt_of_mul_lt_mul_right h (by omega)
theorem g_le_of {a b : Int} (h : a * (gG : Int) ≤ b * (gG : Int)) : a ≤ b := Int.le_of_mul_le_mul_right h (by have := gG_pos; omega)
/-- a number between two bounds in 64ths -/
def Bd (l h : Int) (o : Option Nat) : Prop := ∃ x, o = some x ∧ absF x < 2139095040 ∧ l * (gG : Int) ≤ valF x ∧ valF x ≤ h * (gG : Int)
theorem Bd.mono {l h l2 h2 : Int} {o : Option Nat} (q : Bd l h o) (hl : l2 ≤ l) (hh : h ≤ h2) : Bd l2 h2 o := by
  obtain ⟨x, e, f, a, b⟩ := q
  exact ⟨x, e, f, Int.le_trans (g_le hl) a, Int.le_trans b (g_le hh)⟩
theorem Bd.le {l h : Int} {o : Option Nat} (q : Bd l h o) : l ≤ h := by
  obtain ⟨x, _, _, a, b⟩ := q
  exact g_le_of (Int.le_trans a b)
/-- two bounds of one number -/
theorem Bd.both {l h l2 h2 : Int} {o : Option Nat} (q : Bd l h o) (q2 : Bd l2 h2 o) : Bd l2 h o := by
  obtain ⟨x, e, f, a, b⟩ := q
  obtain ⟨y, e2, f2, a2, b2⟩ := q2
  rw [e] at e2
  cases e2
  exact ⟨x, e, f, a2, b⟩
theorem Bd.word {b : Int} (h : b.natAbs < 16777216) : Bd b b (some (gW b)) := ⟨_, rfl, (gW_val h).1, Int.le_of_eq (gW_val h).2.symm, Int.le_of_eq (gW_val h).2⟩
theorem oppF_val (y : Nat) : valF (oppF y) = -valF y := by
  obtain ⟨h1, h2⟩ := oppF_parts y
  unfold valF
  rw [h1, h2]
  cases sgnF y <;> simp
theorem Bd.add {l h l2 h2 : Int} {a b : Option Nat} (q : Bd l h a) (q2 : Bd l2 h2 b) (hl : (l + l2).natAbs < 16777216) (hh : (h + h2).natAbs < 16777216) : Bd (l + l2) (h + h2) (fop .add .f32 a b) := by
  obtain ⟨x, rfl, fx, x1, x2⟩ := q
  obtain ⟨y, rfl, fy, y1, y2⟩ := q2
  obtain ⟨c1, c2⟩ := gW_val hl
  obtain ⟨e1, e2⟩ := gW_val hh
  obtain ⟨r, hr, fr, r1, r2, _⟩ := addF fx fy c1 e1 (by rw [c2, Int.add_mul]; omega) (by rw [e2, Int.add_mul]; omega)
  exact ⟨r, hr, fr, by rw [← c2]; exact r1, by rw [← e2]; exact r2⟩
theorem Bd.sub {l h l2 h2 : Int} {a b : Option Nat} (q : Bd l h a) (q2 : Bd l2 h2 b) (hl : (l - h2).natAbs < 16777216) (hh : (h - l2).natAbs < 16777216) : Bd (l - h2) (h - l2) (fop .sub .f32 a b) := by
  obtain ⟨x, rfl, fx, x1, x2⟩ := q
  obtain ⟨y, rfl, fy, y1, y2⟩ := q2
  obtain ⟨c1, c2⟩ := gW_val hl
  obtain ⟨e1, e2⟩ := gW_val hh
  have ho := oppF_val y
  obtain ⟨r, hr, fr, r1, r2, _⟩ := addF (x := x) (y := oppF y) fx (by rw [(oppF_parts y).1]; exact fy) c1 e1 (by rw [c2, Int.sub_mul]; omega) (by rw [e2, Int.sub_mul]; omega)
  refine ⟨r, ?_, fr, by rw [← c2]; exact r1, by rw [← e2]; exact r2⟩
  show floatBits .sub .f32 x y = some r
  rw [sub_oppF fy]
  exact hr
theorem VF_45 : (VF 1060372480 : Int) = 45 * (gG : Int) := by decide +kernel
theorem joinV_gap {lo hi d : Nat} (h : floatBits .sub .f32 lo hi = some d) : joinV (some hi) (some lo) = (gapNum d).bind fun g => floatBits .add .f32 hi g := by
  have h1 : fop .sub .f32 (some lo) (some hi) = some d := h
  unfold joinV
  rw [h1]
  show fop .add .f32 (some hi) (logO (fop .add .f32 (some 1065353216) (expNum d))) = _
  unfold gapNum
  cases expNum d with
  | none => rfl
  | some e =>
    show fop .add .f32 (some hi) ((floatBits .add .f32 1065353216 e).bind logNum) = ((floatBits .add .f32 1065353216 e).bind logNum).bind _
    cases (floatBits .add .f32 1065353216 e).bind logNum with
    | none => rfl
    | some g => rfl
theorem joinV_bd {hi lo : Nat} {l h : Int} (f1 : absF hi < 2139095040) (f2 : absF lo < 2139095040) (hle : valF lo ≤ valF hi) (hl : l * (gG : Int) ≤ valF hi) (hh : valF hi ≤ h * (gG : Int)) (hs : (h + 45).natAbs < 16777216) : Bd l (h + 45) (joinV (some hi) (some lo)) := by
  obtain ⟨d, hd, hd2⟩ := gap_fin f2 f1 hle
  obtain ⟨g, hg, g1, g2⟩ := gapNum_45 hd2
  have vg : valF g = (VF (absF g) : Int) := val_posF g1
  have vg2 := VF_mono g2 (by decide)
  have v45 := VF_45
  obtain ⟨e1, e2⟩ := gW_val hs
  obtain ⟨r, hr, fr, r1, r2, _⟩ := addF (x := hi) (y := g) (c := hi) (e := gW (h + 45)) f1 (by omega) f1 e1 (by omega) (by rw [e2, Int.add_mul]; omega)
  refine ⟨r, ?_, fr, by omega, by rw [← e2]; exact r2⟩
  rw [joinV_gap hd, hg]
  exact hr
theorem gtF_val {x y : Nat} (f1 : absF x < 2139095040) (f2 : absF y < 2139095040) : gtF (some x) (some y) = decide (valF y < valF x) := by
  show (FloatKind.f32.format.order x y == some Ordering.gt) = _
  rw [show FloatKind.f32.format = single from rfl, order_valF f1 f2]
  exact cmp_gtB _ _
theorem Bd.join {l h l2 h2 : Int} {a b : Option Nat} (q : Bd l h a) (q2 : Bd l2 h2 b) (hs : (max h h2 + 45).natAbs < 16777216) : Bd (max l l2) (max h h2 + 45) (joinO a b) := by
  obtain ⟨x, rfl, fx, x1, x2⟩ := q
  obtain ⟨y, rfl, fy, y1, y2⟩ := q2
  have gl := g_le (Int.le_max_left h h2)
  have gr := g_le (Int.le_max_right h h2)
  have ml : max l l2 = l ∨ max l l2 = l2 := by omega
  unfold joinO
  rw [gtF_val fy fx]
  by_cases hc : valF x < valF y
  · rw [decide_eq_true hc, if_pos rfl]
    refine joinV_bd fy fx (by omega) ?_ (by omega) hs
    rcases ml with e | e <;> rw [e] <;> omega
  · rw [decide_eq_false hc, if_neg (by simp)]
    refine joinV_bd fx fy (by omega) ?_ (by omega) hs
    rcases ml with e | e <;> rw [e] <;> omega

end Go.Proofs.Ytopeidmafalklaa


namespace Go.Proofs.Ytopeidmafalklaa
open Go.RowKit

def bN1 (b : Bool) : Nat := if b then 1 else 0
theorem toS_nat (M s : Nat) (b : Bool) : toS M s b = (2 * s + bN1 b) % 2 ^ M := by
  unfold toS
  have h : (2 * (s : Int) + bitI b) % 2 ^ M = (((2 * s + bN1 b) % 2 ^ M : Nat) : Int) := by
    have e : bitI b = ((bN1 b : Nat) : Int) := by cases b <;> rfl
    rw [e]
    push_cast
    rfl
  rw [h, Int.toNat_natCast]
/-- the state after j bits from a place on -/
def stG (M s0 : Nat) (c : Nat → Bool) (p : Nat) : Nat → Nat
  | 0 => s0
  | j + 1 => toS M (stG M s0 c p j) (c (p + j))
def met (M : Nat) (iv : Nat → Nat → Bool → Int) (s0 : Nat) (c : Nat → Bool) (p : Nat) : Nat → Int
  | 0 => 0
  | j + 1 => met M iv s0 c p j + iv (p + j) (stG M s0 c p j) (c (p + j))
def Leg (n : Nat) (c : Nat → Bool) : Prop := ∀ t, n ≤ t → c t = false
theorem stG_succ {M s0 : Nat} {c : Nat → Bool} {p j : Nat} : stG M s0 c p (j + 1) = toS M (stG M s0 c p j) (c (p + j)) := rfl
theorem met_succ {M : Nat} {iv : Nat → Nat → Bool → Int} {s0 : Nat} {c : Nat → Bool} {p j : Nat} : met M iv s0 c p (j + 1) = met M iv s0 c p j + iv (p + j) (stG M s0 c p j) (c (p + j)) := rfl
theorem stG_lt {M s0 : Nat} {c : Nat → Bool} {p : Nat} (h : s0 < 2 ^ M) : ∀ j, stG M s0 c p j < 2 ^ M
  | 0 => h
  | _ + 1 => toS_lt _
theorem stG_congr {M s0 : Nat} {c d : Nat → Bool} {p : Nat} : ∀ {j : Nat}, (∀ i, i < j → c (p + i) = d (p + i)) → stG M s0 c p j = stG M s0 d p j
  | 0, _ => rfl
  | j + 1, h => by
    unfold stG
    rw [stG_congr (j := j) fun i hi => h i (by omega), h j (by omega)]
theorem met_congr {M : Nat} {iv : Nat → Nat → Bool → Int} {s0 : Nat} {c d : Nat → Bool} {p : Nat} : ∀ {j : Nat}, (∀ i, i < j → c (p + i) = d (p + i)) → met M iv s0 c p j = met M iv s0 d p j
  | 0, _ => rfl
  | j + 1, h => by
    unfold met
    rw [met_congr (j := j) fun i hi => h i (by omega), stG_congr (j := j) fun i hi => h i (by omega), h j (by omega)]
theorem stG_front {M s0 : Nat} {c : Nat → Bool} {p : Nat} : ∀ j, stG M s0 c p (j + 1) = stG M (toS M s0 (c p)) c (p + 1) j
  | 0 => rfl
  | j + 1 => by
    show toS M (stG M s0 c p (j + 1)) (c (p + (j + 1))) = toS M (stG M (toS M s0 (c p)) c (p + 1) j) (c (p + 1 + j))
    rw [stG_front j, show p + (j + 1) = p + 1 + j by omega]
theorem met_front {M : Nat} {iv : Nat → Nat → Bool → Int} {s0 : Nat} {c : Nat → Bool} {p : Nat} : ∀ j, met M iv s0 c p (j + 1) = iv p s0 (c p) + met M iv (toS M s0 (c p)) c (p + 1) j
  | 0 => by show (0 : Int) + iv (p + 0) s0 (c (p + 0)) = iv p s0 (c p) + 0; rw [Nat.add_zero]; omega
  | j + 1 => by
    show met M iv s0 c p (j + 1) + iv (p + (j + 1)) (stG M s0 c p (j + 1)) (c (p + (j + 1))) = iv p s0 (c p) + (met M iv (toS M s0 (c p)) c (p + 1) j + iv (p + 1 + j) (stG M (toS M s0 (c p)) c (p + 1) j) (c (p + 1 + j)))
    rw [met_front j, stG_front j, show p + (j + 1) = p + 1 + j by omega]
    omega
theorem stG_add {M s0 : Nat} {c : Nat → Bool} {p a : Nat} : ∀ j, stG M s0 c p (a + j) = stG M (stG M s0 c p a) c (p + a) j
  | 0 => rfl
  | j + 1 => by
    show toS M (stG M s0 c p (a + j)) (c (p + (a + j))) = toS M (stG M (stG M s0 c p a) c (p + a) j) (c (p + a + j))
    rw [stG_add j, show p + (a + j) = p + a + j by omega]
theorem met_add {M : Nat} {iv : Nat → Nat → Bool → Int} {s0 : Nat} {c : Nat → Bool} {p a : Nat} : ∀ j, met M iv s0 c p (a + j) = met M iv s0 c p a + met M iv (stG M s0 c p a) c (p + a) j
  | 0 => by show met M iv s0 c p a = met M iv s0 c p a + 0; omega
  | j + 1 => by
    show met M iv s0 c p (a + j) + iv (p + (a + j)) (stG M s0 c p (a + j)) (c (p + (a + j))) = met M iv s0 c p a + (met M iv (stG M s0 c p a) c (p + a) j + iv (p + a + j) (stG M (stG M s0 c p a) c (p + a) j) (c (p + a + j)))
    rw [met_add j, stG_add j, show p + (a + j) = p + a + j by omega]
    omega
theorem met_bd {M : Nat} {iv : Nat → Nat → Bool → Int} {s0 : Nat} {c : Nat → Bool} {p : Nat} (h0 : s0 < 2 ^ M) : ∀ j, (∀ i s b, i < j → s < 2 ^ M → -1024 ≤ iv (p + i) s b ∧ iv (p + i) s b ≤ 1024) → -(1024 * (j : Int)) ≤ met M iv s0 c p j ∧ met M iv s0 c p j ≤ 1024 * (j : Int)
  | 0, _ => by show -(1024 * (0 : Int)) ≤ 0 ∧ (0 : Int) ≤ 1024 * 0; decide
  | j + 1, h => by
    have h1 := met_bd h0 (c := c) j fun i s b hi hs => h i s b (by omega) hs
    have h2 := h j (stG M s0 c p j) (c (p + j)) (by omega) (stG_lt h0 j)
    unfold met
    push_cast
    omega
/-- a path to a state, one bit longer -/
theorem path_ext {M n t : Nat} {iv : Nat → Nat → Bool → Int} {c : Nat → Bool} (hc : Leg n c) {b : Bool} (hb : n ≤ t → b = false) :
    ∃ d, Leg n d ∧ stG M 0 d 0 (t + 1) = toS M (stG M 0 c 0 t) b ∧ met M iv 0 d 0 (t + 1) = met M iv 0 c 0 t + iv t (stG M 0 c 0 t) b ∧ (∀ i, i < t → d i = c i) ∧ d t = b := by
  have hd : ∀ i, i < t → (fun i => if i = t then b else if i < t then c i else false) (0 + i) = c (0 + i) := fun i hi => by
    simp only [Nat.zero_add]
    rw [if_neg (by omega), if_pos hi]
  refine ⟨fun i => if i = t then b else if i < t then c i else false, fun i hi => ?_, ?_, ?_, fun i hi => ?_, by simp⟩
  · simp only []
    split
    · rename_i e; subst e; exact hb hi
    · split
      · exact hc i hi
      · rfl
  · rw [stG_succ, stG_congr hd]
    simp
  · rw [met_succ, met_congr hd, stG_congr hd]
    simp
  · have := hd i hi
    simpa using this
/-- a path from a state on, one bit longer in front -/
theorem path_front {M n p s j : Nat} {iv : Nat → Nat → Bool → Int} {c : Nat → Bool} (hc : Leg n c) {b : Bool} (hb : n ≤ p → b = false) :
    ∃ d, Leg n d ∧ stG M s d p (j + 1) = stG M (toS M s b) c (p + 1) j ∧ met M iv s d p (j + 1) = iv p s b + met M iv (toS M s b) c (p + 1) j := by
  have hd : ∀ i, i < j → (fun i => if i = p then b else c i) (p + 1 + i) = c (p + 1 + i) := fun i hi => by
    simp only []
    rw [if_neg (by omega)]
  refine ⟨fun i => if i = p then b else c i, fun i hi => ?_, ?_, ?_⟩
  · simp only []
    split
    · rename_i e; subst e; exact hb hi
    · exact hc i hi
  · rw [stG_front]
    simp only [↓reduceIte]
    exact stG_congr hd
  · rw [met_front]
    simp only [↓reduceIte]
    rw [met_congr hd]
/-- a path to a state, a bit, and a path from there on -/
theorem path_join {M n i j s : Nat} {iv : Nat → Nat → Bool → Int} {c d : Nat → Bool} (hc : Leg n c) (hd : Leg n d) {b : Bool} (hb : n ≤ i → b = false) (hs : stG M 0 c 0 i = s) :
    ∃ e, Leg n e ∧ e i = b ∧ stG M 0 e 0 (i + 1 + j) = stG M (toS M s b) d (i + 1) j ∧ met M iv 0 e 0 (i + 1 + j) = met M iv 0 c 0 i + iv i s b + met M iv (toS M s b) d (i + 1) j := by
  have h1 : ∀ k, k < i → (fun k => if k = i then b else if k < i then c k else d k) (0 + k) = c (0 + k) := fun k hk => by
    simp only [Nat.zero_add]
    rw [if_neg (by omega), if_pos hk]
  have h2 : ∀ k, k < j → (fun k => if k = i then b else if k < i then c k else d k) (i + 1 + k) = d (i + 1 + k) := fun k hk => by
    simp only []
    rw [if_neg (by omega), if_neg (by omega)]
  have h3 : stG M 0 (fun k => if k = i then b else if k < i then c k else d k) 0 (i + 1) = toS M s b := by
    rw [stG_succ, stG_congr h1, hs]
    simp
  refine ⟨fun k => if k = i then b else if k < i then c k else d k, fun k hk => ?_, by simp, ?_, ?_⟩
  · simp only []
    split
    · rename_i e; subst e; exact hb hk
    · split
      · exact hc k hk
      · exact hd k hk
  · rw [stG_add, h3, Nat.zero_add]
    exact stG_congr h2
  · have h4 := met_congr (M := M) (iv := iv) (s0 := toS M s b) (c := fun k => if k = i then b else if k < i then c k else d k) (d := d) (p := i + 1) (j := j) h2
    rw [met_add, h3, Nat.zero_add, h4, met_succ, met_congr h1, stG_congr h1, hs]
    simp
/-- the end is the state 0 where as many bits as it holds are false -/
theorem st_end {M n : Nat} {c : Nat → Bool} (hc : Leg n c) (hM : M ≤ 4) : stG M 0 c 0 (n + M) = 0 := by
  rw [stG_add]
  have hs : stG M 0 c 0 n < 2 ^ M := stG_lt (Nat.pow_pos (by decide)) n
  obtain ⟨s, es⟩ : ∃ s, stG M 0 c 0 n = s := ⟨_, rfl⟩
  rw [es] at hs ⊢
  have hk : ∀ j, stG M s c (0 + n) j = stG M s (fun _ => false) 0 j := fun j => by
    have : ∀ j, stG M s c (0 + n) j = stG M s (fun _ => false) 0 j := by
      intro j
      induction j with
      | zero => rfl
      | succ j ih =>
        unfold stG
        rw [ih, hc _ (by omega)]
    exact this j
  rw [hk]
  have h5 : M = 0 ∨ M = 1 ∨ M = 2 ∨ M = 3 ∨ M = 4 := by omega
  rcases h5 with rfl | rfl | rfl | rfl | rfl
  · have : s = 0 := by simpa using hs
    subst this; rfl
  · exact (by decide : ∀ s, s < 2 ^ 1 → stG 1 s (fun _ => false) 0 1 = 0) s hs
  · exact (by decide : ∀ s, s < 2 ^ 2 → stG 2 s (fun _ => false) 0 2 = 0) s hs
  · exact (by decide : ∀ s, s < 2 ^ 3 → stG 3 s (fun _ => false) 0 3 = 0) s hs
  · exact (by decide : ∀ s, s < 2 ^ 4 → stG 4 s (fun _ => false) 0 4 = 0) s hs

/-! ### two paths that differ -/
def regN (M : Nat) (c : Nat → Bool) (t : Nat) : Nat := 2 * stG M 0 c 0 t + bN1 (c t)
theorem reg_next {M t : Nat} {c : Nat → Bool} : regN M c (t + 1) / 2 = regN M c t % 2 ^ M := by
  have h1 : stG M 0 c 0 (t + 1) = regN M c t % 2 ^ M := by
    unfold stG
    rw [toS_nat, Nat.zero_add]
    rfl
  unfold regN at h1 ⊢
  rw [h1]
  have : bN1 (c (t + 1)) < 2 := by unfold bN1; split <;> decide
  omega
theorem reg_shift {M t : Nat} {c : Nat → Bool} : ∀ j, j ≤ M → regN M c (t + j) / 2 ^ j = regN M c t % 2 ^ (M + 1 - j)
  | 0, _ => by
    rw [Nat.pow_zero, Nat.div_one, Nat.add_zero, Nat.sub_zero]
    refine (Nat.mod_eq_of_lt ?_).symm
    have h1 : stG M 0 c 0 t < 2 ^ M := stG_lt (Nat.pow_pos (by decide)) t
    unfold regN
    have : bN1 (c t) < 2 := by unfold bN1; split <;> decide
    rw [Nat.pow_succ]
    omega
  | j + 1, hj => by
    rw [Nat.pow_succ, Nat.mul_comm, ← Nat.div_div_eq_div_mul, show t + (j + 1) = t + j + 1 by omega, reg_next]
    have e1 : 2 ^ M = 2 ^ j * 2 ^ (M - j) := by rw [← Nat.pow_add, show j + (M - j) = M by omega]
    rw [e1, Nat.mod_mul_right_div_self, reg_shift j (by omega), show M + 1 - (j + 1) = M - j by omega, show M + 1 - j = M - j + 1 by omega, Nat.pow_succ]
    exact Nat.mod_mul_right_mod ..
theorem odd_all : ((List.range 16).all fun m => (List.range 4).all fun j => (List.range 16).all fun a => (List.range 16).all fun b => !(m % 2 ^ (j + 1) == 2 ^ j) || !(a / 2 ^ (j + 1) == b / 2 ^ (j + 1)) || (a / 2 ^ j % 2 == b / 2 ^ j % 2) || (oddI (bits .and .i64 ((a : Nat) : Int) ((m : Nat) : Int)) != oddI (bits .and .i64 ((b : Nat) : Int) ((m : Nat) : Int)))) = true := by decide +kernel
theorem odd_differ (m : Nat) (hm : m < 16) (j : Nat) (hj : j < 4) (h : m % 2 ^ (j + 1) = 2 ^ j) (a : Nat) (ha : a < 16) (b : Nat) (hb : b < 16) (h1 : a / 2 ^ (j + 1) = b / 2 ^ (j + 1)) (h2 : a / 2 ^ j % 2 ≠ b / 2 ^ j % 2) :
    oddI (bits .and .i64 ((a : Nat) : Int) ((m : Nat) : Int)) ≠ oddI (bits .and .i64 ((b : Nat) : Int) ((m : Nat) : Int)) := by
  have q := List.all_eq_true.1 (List.all_eq_true.1 (List.all_eq_true.1 (List.all_eq_true.1 odd_all m (List.mem_range.2 hm)) j (List.mem_range.2 hj)) a (List.mem_range.2 ha)) b (List.mem_range.2 hb)
  simp only [Bool.or_eq_true, Bool.not_eq_true', beq_eq_false_iff_ne, beq_iff_eq, bne_iff_ne] at q
  rcases q with ((q | q) | q) | q
  · exact absurd h q
  · exact absurd h1 q
  · exact absurd q h2
  · exact q
theorem low_all : ((List.range 4).all fun M => (List.range (2 ^ (M + 1))).all fun m => m == 0 || (List.range (M + 1)).any fun j => m % 2 ^ (j + 1) == 2 ^ j) = true := by decide +kernel
theorem low_bit (M : Nat) (hM : M < 4) (m : Nat) (hm : m < 2 ^ (M + 1)) (h0 : 0 < m) : ∃ j, j ≤ M ∧ m % 2 ^ (j + 1) = 2 ^ j := by
  have q := List.all_eq_true.1 (List.all_eq_true.1 low_all M (List.mem_range.2 hM)) m (List.mem_range.2 hm)
  simp only [Bool.or_eq_true, beq_iff_eq, List.any_eq_true, List.mem_range] at q
  rcases q with q | ⟨j, hj, q⟩
  · omega
  · exact ⟨j, by omega, q⟩
theorem first_diff {c d : Nat → Bool} : ∀ i, c i ≠ d i → ∃ k, k ≤ i ∧ c k ≠ d k ∧ ∀ l, l < k → c l = d l := by
  intro i
  induction i using Nat.strongRecOn with
  | _ i ih =>
    intro h
    by_cases hx : ∃ l, l < i ∧ c l ≠ d l
    · obtain ⟨l, hl, hne⟩ := hx
      obtain ⟨k, hk, h1, h2⟩ := ih l hl hne
      exact ⟨k, by omega, h1, h2⟩
    · exact ⟨i, Nat.le_refl _, h, fun l hl => Decidable.byContradiction fun q => hx ⟨l, hl, q⟩⟩
theorem sent_differ {M i : Nat} {m : Nat} {c d : Nat → Bool} (hM : M ≤ 3) (hm0 : 0 < m) (hm : m < 2 ^ (M + 1)) (hne : c i ≠ d i) :
    ∃ t, t ≤ i + M ∧ oddI (bits .and .i64 ((regN M c t : Nat) : Int) ((m : Nat) : Int)) ≠ oddI (bits .and .i64 ((regN M d t : Nat) : Int) ((m : Nat) : Int)) := by
  obtain ⟨k, hk, h1, h2⟩ := first_diff i hne
  obtain ⟨j, hj, hjm⟩ := low_bit M (by omega) m hm hm0
  have hp : 2 ^ (M + 1) ≤ 16 := Nat.le_trans (Nat.pow_le_pow_right (by decide) (show M + 1 ≤ 4 by omega)) (by decide)
  have hreg : ∀ e : Nat → Bool, regN M e (k + j) < 16 := fun e => by
    have h3 : stG M 0 e 0 (k + j) < 2 ^ M := stG_lt (Nat.pow_pos (by decide)) _
    have h4 : bN1 (e (k + j)) < 2 := by unfold bN1; split <;> decide
    rw [Nat.pow_succ] at hp
    unfold regN
    omega
  have hst : stG M 0 c 0 k = stG M 0 d 0 k := stG_congr fun l hl => by rw [Nat.zero_add]; exact h2 l hl
  refine ⟨k + j, by omega, odd_differ m (by omega) j (by omega) hjm _ (hreg c) _ (hreg d) ?_ ?_⟩
  · rw [Nat.pow_succ, ← Nat.div_div_eq_div_mul, ← Nat.div_div_eq_div_mul, reg_shift j hj, reg_shift j hj, show M + 1 - j = M - j + 1 by omega, Nat.pow_succ, Nat.mul_comm, Nat.mod_mul_right_div_self, Nat.mod_mul_right_div_self]
    have e : ∀ x : Nat → Bool, regN M x k / 2 = stG M 0 x 0 k := fun x => by
      have h4 : bN1 (x k) < 2 := by unfold bN1; split <;> decide
      unfold regN
      omega
    rw [e, e, hst]
  · rw [reg_shift j hj, reg_shift j hj, show M + 1 - j = M - j + 1 by omega, Nat.pow_succ, Nat.mul_comm, Nat.mod_mul_right_mod, Nat.mod_mul_right_mod]
    have e : ∀ x : Nat → Bool, regN M x k % 2 = bN1 (x k) := fun x => by
      have h4 : bN1 (x k) < 2 := by unfold bN1; split <;> decide
      unfold regN
      omega
    rw [e, e]
    intro q
    apply h1
    revert q
    cases c k <;> cases d k <;> simp [bN1]

end Go.Proofs.Ytopeidmafalklaa


namespace Go.Proofs.Ytopeidmafalklaa
open Go.RowKit

theorem getD_set {α : Type} {T : List α} {i j : Nat} {v d : α} (h : i < T.length) : (T.set i v).getD j d = if i = j then v else T.getD j d := by
  simp only [List.getD, List.getElem?_set]
  split
  · subst_vars
    simp only [Option.getD_some]
  · rfl
/-- what is known of a coder's half gains: 64ths -/
structure HW (M n : Nat) (ms : List Int) (soft : List Nat) (hv : Nat → Nat → Bool → Int) : Prop where
  m3 : M ≤ 3
  n5 : n ≤ 5
  val : ∀ t s b, t < n + M → s < 2 ^ M → Bd (hv t s b) (hv t s b) (halfO ms (partL ms.length soft t) s b)
  bd : ∀ t s b, t < n + M → s < 2 ^ M → -1024 ≤ hv t s b ∧ hv t s b ≤ 1024
/-- a table at a place, J bounding how many ways have been joined -/
def PF (M n : Nat) (hv : Nat → Nat → Bool → Int) (t : Nat) (T : List St) (J : Nat → Nat) : Prop :=
  T.length = 2 ^ M ∧ ∀ s, s < 2 ^ M → ∀ q, T.getD s none = some q → 1 ≤ J s ∧ (∃ c, Leg n c ∧ stG M 0 c 0 t = s) ∧
    ∀ X : Int, X ≤ 1024 * (t : Int) → (∀ c, Leg n c → stG M 0 c 0 t = s → met M hv 0 c 0 t ≤ X) → Bd (-(1024 * (t : Int))) (X + 45 * (t : Int) + 45 * ((J s : Int) - 2)) q
theorem PF.mono {M n t : Nat} {hv : Nat → Nat → Bool → Int} {T : List St} {J J2 : Nat → Nat} (h : PF M n hv t T J) (hj : ∀ s, s < 2 ^ M → J s ≤ J2 s) : PF M n hv t T J2 := by
  refine ⟨h.1, fun s hs q hq => ?_⟩
  obtain ⟨h1, h2, h3⟩ := h.2 s hs q hq
  have h4 := hj s hs
  exact ⟨by omega, h2, fun X hX hc => (h3 X hX hc).mono (Int.le_refl _) (by omega)⟩
variable {M n : Nat} {ms : List Int} {soft : List Nat} {hv : Nat → Nat → Bool → Int}
theorem met0_bd (H : HW M n ms soft hv) {c : Nat → Bool} {t : Nat} (ht : t ≤ n + M) : -(1024 * (t : Int)) ≤ met M hv 0 c 0 t ∧ met M hv 0 c 0 t ≤ 1024 * (t : Int) :=
  met_bd (Nat.pow_pos (by decide)) t fun i s b hi hs => by rw [Nat.zero_add]; exact H.bd i s b (by omega) hs
/-- what an edge adds -/
theorem contrib (H : HW M n ms soft hv) {t : Nat} (ht : t < n + M) {a : List St} (ha : PF M n hv t a fun _ => 2) {s : Nat} (hs : s < 2 ^ M) {b : Bool} (hb : n ≤ t → b = false) {p : Option Nat} (hp : a.getD s none = some p) :
    (∃ c, Leg n c ∧ stG M 0 c 0 (t + 1) = toS M s b) ∧ ∀ X : Int, X ≤ 1024 * ((t + 1 : Nat) : Int) → (∀ c, Leg n c → stG M 0 c 0 (t + 1) = toS M s b → met M hv 0 c 0 (t + 1) ≤ X) →
      Bd (-(1024 * ((t + 1 : Nat) : Int))) (X + 45 * (t : Int)) (fop .add .f32 p (halfO ms (partL ms.length soft t) s b)) := by
  have hn5 := H.n5
  have hm3 := H.m3
  obtain ⟨-, ⟨c, hc, hcs⟩, h3⟩ := ha.2 s hs p hp
  obtain ⟨d, hd, hd1, hd2, -, -⟩ := path_ext (M := M) (iv := hv) hc hb (t := t)
  rw [hcs] at hd1 hd2
  refine ⟨⟨d, hd, hd1⟩, fun X hX hcc => ?_⟩
  obtain ⟨v1, v2⟩ := H.bd t s b ht hs
  have hlow := hcc d hd hd1
  have hm := met0_bd H (c := c) (t := t) (by omega)
  have hX' : ∀ e, Leg n e → stG M 0 e 0 t = s → met M hv 0 e 0 t ≤ min (X - hv t s b) (1024 * (t : Int)) := fun e he hes => by
    obtain ⟨f, hf, hf1, hf2, -, -⟩ := path_ext (M := M) (iv := hv) he hb (t := t)
    rw [hes] at hf1 hf2
    have h4 := hcc f hf hf1
    have h5 := met0_bd H (c := e) (t := t) (by omega)
    omega
  have h6 := h3 (min (X - hv t s b) (1024 * (t : Int))) (by omega) hX'
  have h7 := hX' c hc hcs
  dsimp only at h6
  have h8 := h6.add (H.val t s b ht hs) (by omega) (by omega)
  exact h8.mono (by push_cast; omega) (by omega)
/-- one edge more -/
theorem PF.edge (H : HW M n ms soft hv) {t : Nat} (ht : t < n + M) {a T : List St} (ha : PF M n hv t a fun _ => 2) {J : Nat → Nat} (hT : PF M n hv (t + 1) T J) (hJ : ∀ s, J s ≤ 32) {s : Nat} (hs : s < 2 ^ M) {b : Bool} (hb : n ≤ t → b = false) :
    PF M n hv (t + 1) (T.set (toS M s b) (joinS (T.getD (toS M s b) none) (plusS (a.getD s none) (halfO ms (partL ms.length soft t) s b)))) (fun s' => J s' + if toS M s b = s' then 1 else 0) := by
  have hn5 := H.n5
  have hm3 := H.m3
  have hto : toS M s b < 2 ^ M := toS_lt b
  refine ⟨by rw [List.length_set]; exact hT.1, fun s' hs' q hq => ?_⟩
  dsimp only
  rw [getD_set (by rw [hT.1]; exact hto)] at hq
  by_cases e : toS M s b = s'
  · rw [if_pos e] at hq ⊢
    subst e
    cases hp : a.getD s none with
    | none =>
      rw [hp] at hq
      have hq : T.getD (toS M s b) none = some q := by
        revert hq
        cases T.getD (toS M s b) none <;> exact fun h => h
      obtain ⟨h1, h2, h3⟩ := hT.2 _ hs' q hq
      exact ⟨by omega, h2, fun X hX hc => (h3 X hX hc).mono (Int.le_refl _) (by push_cast; omega)⟩
    | some p =>
      rw [hp] at hq
      obtain ⟨k1, k2⟩ := contrib H ht ha hs hb hp
      cases hu : T.getD (toS M s b) none with
      | none =>
        rw [hu] at hq
        cases hq
        exact ⟨by omega, k1, fun X hX hc => (k2 X hX hc).mono (Int.le_refl _) (by push_cast; omega)⟩
      | some u =>
        rw [hu] at hq
        cases hq
        obtain ⟨h1, h2, h3⟩ := hT.2 _ hs' u hu
        refine ⟨by omega, k1, fun X hX hc => ?_⟩
        obtain ⟨c, hc1, hc2⟩ := k1
        have hl := hc c hc1 hc2
        have hl2 := met0_bd H (c := c) (t := t + 1) (by omega)
        have hJ2 := hJ (toS M s b)
        have h5 := (h3 X hX hc).join (k2 X hX hc) (by push_cast at *; omega)
        exact h5.mono (by omega) (by push_cast; omega)
  · rw [if_neg e] at hq ⊢
    exact hT.2 s' hs' q hq
/-- how many edges lead to a state -/
def cntF (M : Nat) : Nat → Nat → Nat
  | 0, _ => 0
  | r + 1, s' => cntF M r s' + (if toS M r false = s' then 1 else 0) + (if toS M r true = s' then 1 else 0)
theorem cntF_le (M : Nat) : ∀ r s', cntF M r s' ≤ 2 * r
  | 0, _ => Nat.le_refl _
  | r + 1, s' => by
    have := cntF_le M r s'
    unfold cntF
    split <;> split <;> omega
theorem cntF_two (M : Nat) (hM : M ≤ 3) (s' : Nat) (hs : s' < 2 ^ M) : cntF M (2 ^ M) s' ≤ 2 := by
  have q : ((List.range 4).all fun M => (List.range (2 ^ M)).all fun s' => decide (cntF M (2 ^ M) s' ≤ 2)) = true := by decide +kernel
  have q2 := List.all_eq_true.1 (List.all_eq_true.1 q M (List.mem_range.2 (by omega))) s' (List.mem_range.2 hs)
  exact of_decide_eq_true q2
theorem PF.row (H : HW M n ms soft hv) {t : Nat} (ht : t < n + M) {a : List St} (ha : PF M n hv t a fun _ => 2) : ∀ r, r ≤ 2 ^ M → PF M n hv (t + 1) (fwdR M ms (partL ms.length soft t) (decide (n ≤ t)) a r) (cntF M r)
  | 0, _ => by
    refine ⟨by simp [fwdR, noneR], fun s hs q hq => ?_⟩
    exfalso
    revert hq
    show ¬ (noneR (2 ^ M)).getD s none = some q
    unfold noneR
    simp [List.getD, hs]
  | r + 1, hr => by
    have hp : 2 ^ M ≤ 8 := Nat.le_trans (Nat.pow_le_pow_right (by decide) H.m3) (by decide)
    have ih := PF.row H ht ha r (by omega)
    have hJ0 : ∀ s, cntF M r s ≤ 32 := fun s => by have := cntF_le M r s; omega
    have h1 : PF M n hv (t + 1) (fwdE M ms (partL ms.length soft t) (decide (n ≤ t)) a r false (fwdR M ms (partL ms.length soft t) (decide (n ≤ t)) a r)) (fun s' => cntF M r s' + if toS M r false = s' then 1 else 0) := by
      unfold fwdE
      rw [if_neg (by simp)]
      exact PF.edge H ht ha ih hJ0 (by omega) (fun _ => rfl)
    have hJ1 : ∀ s, (cntF M r s + if toS M r false = s then 1 else 0) ≤ 32 := fun s => by
      have := cntF_le M r s
      split <;> omega
    show PF M n hv (t + 1) (fwdE M ms (partL ms.length soft t) (decide (n ≤ t)) a r true (fwdE M ms (partL ms.length soft t) (decide (n ≤ t)) a r false (fwdR M ms (partL ms.length soft t) (decide (n ≤ t)) a r))) _
    by_cases hn : n ≤ t
    · rw [show ∀ T, fwdE M ms (partL ms.length soft t) (decide (n ≤ t)) a r true T = T from fun T => by unfold fwdE; rw [decide_eq_true hn]; rfl]
      exact h1.mono fun s _ => Nat.le_add_right _ _
    · have h2 := PF.edge H ht ha h1 hJ1 (s := r) (b := true) (by omega) (fun h => absurd h hn)
      rw [show ∀ T, fwdE M ms (partL ms.length soft t) (decide (n ≤ t)) a r true T = T.set (toS M r true) (joinS (T.getD (toS M r true) none) (plusS (a.getD r none) (halfO ms (partL ms.length soft t) r true))) from fun T => by unfold fwdE; rw [decide_eq_false hn]; rfl]
      exact h2
theorem oneR_get {S s : Nat} {q : Option Nat} (h : (oneR S).getD s none = some q) : s = 0 ∧ q = some 0 := by
  unfold oneR at h
  simp only [List.getD, List.getElem?_set, List.length_replicate, List.getElem?_replicate] at h
  split at h
  · rename_i e
    split at h
    · simp at h
      exact ⟨by omega, h.symm⟩
    · simp at h
  · split at h <;> simp at h
theorem PF.tab (H : HW M n ms soft hv) : ∀ t, t ≤ n + M → PF M n hv t (fwdT M ms soft n t) fun _ => 2
  | 0, _ => by
    refine ⟨by simp [fwdT, oneR], fun s hs q hq => ?_⟩
    obtain ⟨rfl, rfl⟩ := oneR_get (S := 2 ^ M) hq
    refine ⟨by decide, ⟨fun _ => false, fun _ _ => rfl, rfl⟩, fun X hX hc => ?_⟩
    dsimp only
    have h0 : (0 : Int) ≤ X := hc (fun _ => false) (fun _ _ => rfl) rfl
    exact (Bd.word (b := 0) (by decide)).mono (by omega) (by omega)
  | t + 1, ht => by
    have h := PF.row H (by omega) (PF.tab H t (by omega)) (2 ^ M) (Nat.le_refl _)
    exact h.mono fun s hs => cntF_two M H.m3 s hs
/-- every path is there, and tells a lower bound -/
def PL (_M : Nat) (T : List St) (s : Nat) (v : Int) : Prop := ∃ q u, T.getD s none = some q ∧ Bd v u q
theorem PL.edge (H : HW M n ms soft hv) {t : Nat} (ht : t < n + M) {a T : List St} (ha : PF M n hv t a fun _ => 2) {J : Nat → Nat} (hT : PF M n hv (t + 1) T J) (hJ : ∀ s, J s ≤ 32) {s : Nat} (hs : s < 2 ^ M) {b : Bool} (hb : n ≤ t → b = false) {s' : Nat} {v : Int} (hs' : s' < 2 ^ M) (h : PL M T s' v) :
    PL M (T.set (toS M s b) (joinS (T.getD (toS M s b) none) (plusS (a.getD s none) (halfO ms (partL ms.length soft t) s b)))) s' v := by
  have hn5 := H.n5
  have hm3 := H.m3
  obtain ⟨q, u, hq, hqb⟩ := h
  unfold PL
  rw [getD_set (by rw [hT.1]; exact toS_lt b)]
  by_cases e : toS M s b = s'
  · subst e
    rw [if_pos rfl, hq]
    cases hp : a.getD s none with
    | none => exact ⟨q, u, rfl, hqb⟩
    | some p =>
      obtain ⟨k1, k2⟩ := contrib H ht ha hs hb hp
      have hy := k2 (1024 * ((t + 1 : Nat) : Int)) (Int.le_refl _) (fun c _ _ => (met0_bd H (c := c) (t := t + 1) (by omega)).2)
      obtain ⟨h1, ⟨c, hc1, hc2⟩, h3⟩ := hT.2 _ hs' q hq
      have hq2 := h3 (1024 * ((t + 1 : Nat) : Int)) (Int.le_refl _) (fun c _ _ => (met0_bd H (c := c) (t := t + 1) (by omega)).2)
      have hJ2 := hJ (toS M s b)
      have hb2 := hq2.both hqb
      exact ⟨_, _, rfl, (hb2.join hy (by push_cast at *; omega)).mono (Int.le_max_left _ _) (Int.le_refl _)⟩
  · rw [if_neg e]
    exact ⟨q, u, hq, hqb⟩
theorem PL.new (H : HW M n ms soft hv) {t : Nat} (ht : t < n + M) {a T : List St} (ha : PF M n hv t a fun _ => 2) {J : Nat → Nat} (hT : PF M n hv (t + 1) T J) (hJ : ∀ s, J s ≤ 32) {s : Nat} (hs : s < 2 ^ M) {b : Bool} (hb : n ≤ t → b = false) {v : Int} (h : PL M a s v) (hv2 : -(1024 * (t : Int)) ≤ v) :
    PL M (T.set (toS M s b) (joinS (T.getD (toS M s b) none) (plusS (a.getD s none) (halfO ms (partL ms.length soft t) s b)))) (toS M s b) (v + hv t s b) := by
  have hn5 := H.n5
  have hm3 := H.m3
  obtain ⟨p, u, hp, hpb⟩ := h
  unfold PL
  rw [getD_set (by rw [hT.1]; exact toS_lt b), if_pos rfl, hp]
  obtain ⟨k1, k2⟩ := contrib H ht ha hs hb hp
  have hy := k2 (1024 * ((t + 1 : Nat) : Int)) (Int.le_refl _) (fun c _ _ => (met0_bd H (c := c) (t := t + 1) (by omega)).2)
  obtain ⟨-, -, h3⟩ := ha.2 s hs p hp
  have hp2 := (h3 (1024 * (t : Int)) (Int.le_refl _) (fun c _ _ => (met0_bd H (c := c) (t := t) (by omega)).2)).both hpb
  obtain ⟨v1, v2⟩ := H.bd t s b ht hs
  have hle := hp2.le
  have hz := hp2.add (H.val t s b ht hs) (by push_cast at *; omega) (by push_cast at *; omega)
  have hyz := hy.both hz
  cases hu : T.getD (toS M s b) none with
  | none => exact ⟨_, _, rfl, hyz⟩
  | some w =>
    obtain ⟨h1, -, h4⟩ := hT.2 _ (toS_lt b) w hu
    have hw := h4 (1024 * ((t + 1 : Nat) : Int)) (Int.le_refl _) (fun c _ _ => (met0_bd H (c := c) (t := t + 1) (by omega)).2)
    have hJ2 := hJ (toS M s b)
    exact ⟨_, _, rfl, (hw.join hyz (by push_cast at *; omega)).mono (Int.le_max_right _ _) (Int.le_refl _)⟩
theorem PL.row (H : HW M n ms soft hv) {t : Nat} (ht : t < n + M) {a : List St} (ha : PF M n hv t a fun _ => 2) {s : Nat} (hs : s < 2 ^ M) {b : Bool} (hb : n ≤ t → b = false) {v : Int} (h : PL M a s v) (hv2 : -(1024 * (t : Int)) ≤ v) :
    ∀ r, r ≤ 2 ^ M → s < r → PL M (fwdR M ms (partL ms.length soft t) (decide (n ≤ t)) a r) (toS M s b) (v + hv t s b)
  | 0, _, h0 => absurd h0 (Nat.not_lt_zero _)
  | r + 1, hr, hsr => by
    have hp : 2 ^ M ≤ 8 := Nat.le_trans (Nat.pow_le_pow_right (by decide) H.m3) (by decide)
    have ih := PF.row H ht ha r (by omega)
    have hJ0 : ∀ s, cntF M r s ≤ 32 := fun s => by have := cntF_le M r s; omega
    have hJ1 : ∀ s, (cntF M r s + if toS M r false = s then 1 else 0) ≤ 32 := fun s => by
      have := cntF_le M r s
      split <;> omega
    have e0 : ∀ T, fwdE M ms (partL ms.length soft t) (decide (n ≤ t)) a r false T = T.set (toS M r false) (joinS (T.getD (toS M r false) none) (plusS (a.getD r none) (halfO ms (partL ms.length soft t) r false))) := fun T => by unfold fwdE; rw [if_neg (by simp)]
    have h1 := PF.edge H ht ha ih hJ0 (s := r) (b := false) (by omega) (fun _ => rfl)
    show PL M (fwdE M ms (partL ms.length soft t) (decide (n ≤ t)) a r true (fwdE M ms (partL ms.length soft t) (decide (n ≤ t)) a r false (fwdR M ms (partL ms.length soft t) (decide (n ≤ t)) a r))) _ _
    rw [e0]
    have keep1 : PL M (fwdR M ms (partL ms.length soft t) (decide (n ≤ t)) a r) (toS M s b) (v + hv t s b) ∨ (s = r ∧ b = false) ∨ (s = r ∧ b = true) := by
      by_cases e : s = r
      · cases b
        · exact .inr (.inl ⟨e, rfl⟩)
        · exact .inr (.inr ⟨e, rfl⟩)
      · exact .inl (PL.row H ht ha hs hb h hv2 r (by omega) (by omega))
    by_cases hn : n ≤ t
    · rw [show ∀ T, fwdE M ms (partL ms.length soft t) (decide (n ≤ t)) a r true T = T from fun T => by unfold fwdE; rw [decide_eq_true hn]; rfl]
      rcases keep1 with k | ⟨rfl, rfl⟩ | ⟨rfl, rfl⟩
      · exact PL.edge H ht ha ih hJ0 (by omega) (fun _ => rfl) (toS_lt b) k
      · exact PL.new H ht ha ih hJ0 hs (fun _ => rfl) h hv2
      · exact absurd (hb hn) (by decide)
    · rw [show ∀ T, fwdE M ms (partL ms.length soft t) (decide (n ≤ t)) a r true T = T.set (toS M r true) (joinS (T.getD (toS M r true) none) (plusS (a.getD r none) (halfO ms (partL ms.length soft t) r true))) from fun T => by unfold fwdE; rw [decide_eq_false hn]; rfl]
      rcases keep1 with k | ⟨rfl, rfl⟩ | ⟨rfl, rfl⟩
      · exact PL.edge H ht ha h1 hJ1 (by omega) (fun q => absurd q hn) (toS_lt b) (PL.edge H ht ha ih hJ0 (by omega) (fun _ => rfl) (toS_lt b) k)
      · exact PL.edge H ht ha h1 hJ1 hs (fun q => absurd q hn) (toS_lt false) (PL.new H ht ha ih hJ0 hs (fun _ => rfl) h hv2)
      · exact PL.new H ht ha h1 hJ1 hs (fun q => absurd q hn) h hv2
theorem PL.tab (H : HW M n ms soft hv) {c : Nat → Bool} (hc : Leg n c) : ∀ t, t ≤ n + M → PL M (fwdT M ms soft n t) (stG M 0 c 0 t) (met M hv 0 c 0 t)
  | 0, _ => ⟨some 0, 0, by
      show (oneR (2 ^ M)).getD 0 none = some (some 0)
      have : 0 < 2 ^ M := Nat.pow_pos (by decide)
      simp [oneR, List.getD, this], Bd.word (b := 0) (by decide)⟩
  | t + 1, ht => by
    have h := PL.row H (by omega) (PF.tab H t (by omega)) (stG_lt (Nat.pow_pos (by decide)) t) (b := c t) (fun q => hc t q) (PL.tab H hc t (by omega)) (met0_bd H (by omega)).1 (2 ^ M) (Nat.le_refl _) (stG_lt (Nat.pow_pos (by decide)) t)
    rw [stG_succ, met_succ, Nat.zero_add]
    exact h

end Go.Proofs.Ytopeidmafalklaa


namespace Go.Proofs.Ytopeidmafalklaa
open Go.RowKit

/-- a block that holds a row -/
def Row (W : World) (b : Nat) (e : TypeId) (l : List Value) : Prop := Obj W b e l.toArray
theorem Row.new (W : World) (e : TypeId) (z : Value) (n : Nat) : Row (W.alloc (.cells (zeroRow z n) e)) W.heap.size e (List.replicate n z) := Obj.new W e _
theorem Row.get {W : World} {b : Nat} {e : TypeId} {l : List Value} (h : Row W b e l) {k : Nat} (hk : k < l.length) : W.cell? ⟨b, k, none⟩ = some l[k] := by
  have := Obj.cell h k
  rw [this]
  simp [hk]
theorem Row.frz {W : World} {b : Nat} {e : TypeId} {l : List Value} (h : Row W b e l) (k : Nat) : W.frozen? ⟨b, k, none⟩ = false := Obj.frozen h k
theorem Row.put {W : World} {b : Nat} {e : TypeId} {l : List Value} (h : Row W b e l) (k : Nat) (v : Value) : Row (W.setCell ⟨b, k, none⟩ v) b e (l.set k v) := by
  have := Obj.set h k v
  rw [List.setIfInBounds_toArray] at this
  exact this
theorem Row.far {W : World} {b c : Nat} {e : TypeId} {l : List Value} (h : Row W b e l) (hne : b ≠ c) (k : Nat) (v : Value) : Row (W.setCell ⟨c, k, none⟩ v) b e l := Obj.far h hne k v
theorem Row.alloc {W : World} {b : Nat} {e : TypeId} {l : List Value} (h : Row W b e l) (o : Go.Obj) : Row (W.alloc o) b e l := Obj.alloc h o
theorem Row.below {W W' : World} {b D : Nat} {e : TypeId} {l : List Value} (h : Row W b e l) (hb : Below D W W') (hD : b < D) : Row W' b e l := Obj.below h hb hD
theorem Row.drewN {W : World} {b : Nat} {e : TypeId} {l : List Value} (h : Row W b e l) (k : Nat) : Row (W.drewN k) b e l := h
theorem Row.own {W : World} {b base : Nat} {e : TypeId} {l : List Value} (h : Row W b e l) (hb : base ≤ b) (hl : l.length ≤ 1099511627776) : Ow W base e (.slice (some ⟨b, 0, none⟩) l.length l.length) l := by
  refine ⟨by omega, .inr ⟨b, l.length, l.toArray, rfl, hb, h, Nat.le_refl _, by unfold maxLen; omega, by simp, by simp⟩⟩
theorem Row.kept {W W' : World} {b base n size : Nat} {e e2 : TypeId} {l xs : List Value} {v : Value} (h : Row W b e l) (hr : W.ownsRow base e2 size v n xs) (hne : e ≠ e2) (hg : W.grownBy W' v.ownBlock) : Row W' b e l :=
  Obj.kept h hg (Obj.not_row h hne hr)

end Go.Proofs.Ytopeidmafalklaa


namespace Go.Proofs.Ytopeidmafalklaa
open Go.RowKit Go.Shelf
attribute [local go_sem] Oper.semAt_some

/-- two boxes lie as they lay -/
def KpB (a b : Nat) (W W' : World) : Prop := W'.heap[a]? = W.heap[a]? ∧ W'.heap[b]? = W.heap[b]?
theorem kpB_t {a b : Nat} {A B C : World} (h : KpB a b A B) (k : KpB a b B C) : KpB a b A C := ⟨k.1.trans h.1, k.2.trans h.2⟩
theorem kpB_b {a b : Nat} {w : World} (ha : a < w.heap.size) (hb : b < w.heap.size) (W : World) (l : Nat) (o o' : Go.Obj) (hl : w.heap.size ≤ l) (_ : W.heap[l]? = some o) (_ : o.isCells = false) (_ : o.isWalk = false) : KpB a b W (W.putObj l o') :=
  ⟨World.putObj_heap_other (by omega), World.putObj_heap_other (by omega)⟩
theorem kpB_cell {a b : Nat} {W W' : World} (h : KpB a b W W') : W'.cell? ⟨a, 0, none⟩ = W.cell? ⟨a, 0, none⟩ ∧ W'.cell? ⟨b, 0, none⟩ = W.cell? ⟨b, 0, none⟩ := by
  constructor
  · simp [World.cell?, h.1]
  · simp [World.cell?, h.2]
/-- how many parts there are -/
def chN (q len : Nat) : Nat := (len + (q - 1)) / q
theorem chN_lt {q len k : Nat} (hq : 1 ≤ q) : k < chN q len ↔ q * k < len := by
  unfold chN
  rw [Nat.lt_div_iff_mul_lt (by omega), Nat.mul_comm k q]
  omega
/-- a slice's address, for a loop over its parts -/
def ChA (A : Option Addr) (b off len : Nat) : Prop := A = some ⟨b, off, none⟩ ∨ A = none ∧ len = 0
/-- the number of a part -/
abbrev Part (N : Nat) := {x : Nat // x < N}
/-- a part -/
def chV (b off q len k : Nat) : Value := .slice (some ⟨b, off + q * k, none⟩) (min q (len - q * k)) (min q (len - q * k))


/-! ### a function with such a loop -/
theorem calls_marks {P : Program} {f : FuncId} {fn : Func} {c : Code} {args : Array Value} {w : World} {R : Ending → World → Prop} (hf : P.funcs[f]? = some fn) (hb : fn.body = some c)
    (h : c.wp P (bodyPostM Fence.wide 3 P fn R) { tmps := args ++ Array.replicate (fn.ntmps - args.size) undef, defers := [] } w) : Calls P f args w R :=
  (callsIn_wide (n := 3)).1 (callsIn_of_wp_marks hf hb trivial (wpIn_wide.2 h) rfl)
theorem marks_ret0 {P : Program} {fn : Func} {R : Ending → World → Prop} {a : Act} {w : World} {v : Value} (hr : (results fn a.tmps).run P w = .ok v w) (hd : a.defers = []) (hR : R (.returned v) w) : bodyPostM Fence.wide 3 P fn R .ret a w := by
  show LeavesInM _ _ _ _ _ _ a.defers .returning w
  rw [hd]
  exact ⟨v, hr, hR⟩
theorem marks_ret1 {P : Program} {fn : Func} {R : Ending → World → Prop} {a : Act} {w : World} {v : Value} {D : Nat} (hd : a.defers = [{ target := .collected D, args := #[] }]) (hD : w.heap[D]? = some (.deferred (some [])))
    (hr : (results fn a.tmps).run P (w.putObj D (.deferred none)) = .ok v (w.putObj D (.deferred none))) (hR : R (.returned v) (w.putObj D (.deferred none))) : bodyPostM Fence.wide 3 P fn R .ret a w := by
  show LeavesInM _ _ _ _ _ _ a.defers .returning w
  rw [hd]
  exact ⟨by simp, .inl ⟨_, _, rfl, run_takeDeferred hD, v, hr, hR⟩⟩





set_option maxRecDepth 100000 in
set_option maxHeartbeats 2000000 in
theorem Chunk1_float32_in (n : Nat) (hn : 1 ≤ n) (l Bs Bq b off len cap q : Nat) (hq1 : 1 ≤ q) (hq2 : q ≤ 1048576) (hlen : len ≤ 1048576) (hcap : len ≤ cap) (hcap2 : cap ≤ 9223372036854775807) (J Jx : List Nat → World → Prop)
    (hJ : ∀ pre W k, J pre W → J pre (W.drewN k))
    (hY : ∀ pre x W, J pre W → pre.length < chN q len → x < chN q len → YieldAt Fence.wide (n - 1) Try.prog l #[chV b off q len x] W fun e W' =>
      (e = .returned (.bool true) ∧ J (pre ++ [x]) W' ∧ KpB Bs Bq W W') ∨ (e = .returned (.bool false) ∧ Jx (pre ++ [x]) W'))
    (W : World) (hBs : W.cell? ⟨Bs, 0, none⟩ = some (.slice (some ⟨b, off, none⟩) len cap)) (hBq : W.cell? ⟨Bq, 0, none⟩ = some (.int .i64 (q : Int))) (h0 : J [] W) :
    CallsIn Fence.wide n Try.prog 77 #[.func (.yield l) #[] #[], .pointer (some ⟨Bs, 0, none⟩), .pointer (some ⟨Bq, 0, none⟩)] W fun e W' => (∃ v, e = .returned v) ∧
      ((∃ ys, ys = List.range (chN q len) ∧ J ys W') ∨ (∃ pre, (∃ k, k ≤ chN q len ∧ pre = List.range k) ∧ Jx pre W')) := by
  refine callsIn_of_wp Try.func77 rfl trivial ?_ rfl
  simp only [Try.ntmps77, List.size_toArray, List.length_cons, List.length_nil, Nat.reduceAdd, Nat.reduceSub, Array.replicate_succ, Array.replicate_zero, List.push_toArray, List.append_toArray, List.nil_append, List.cons_append]
  gi_wp2
  gi_loopw [4] (fun i wr => ∃ k P : Nat, k ≤ chN q len ∧ q * k = P ∧ i = .int .i64 (P : Int) ∧ J (List.range k) wr ∧ wr.cell? ⟨Bs, 0, none⟩ = some (.slice (some ⟨b, off, none⟩) len cap) ∧ wr.cell? ⟨Bq, 0, none⟩ = some (.int .i64 (q : Int)))
    (fun i _ => len + q - (intOf i).toNat)
  case atStart => exact ⟨0, 0, Nat.zero_le _, by simp, rfl, h0, hBs, hBq⟩
  case round =>
    clear h0 hBs hBq
    obtain ⟨k, P, hk, hP, rfl, hJs, c1, c2⟩ := hrel
    have hlt := chN_lt (q := q) (len := len) (k := k) hq1
    rw [hP] at hlt
    have hPn : q * (k + 1) = P + q := by rw [Nat.mul_succ, hP]
    have HPN := Lib.hid hPn
    have HP := Lib.hid hP
    clear hP hPn
    by_cases hPl : P < len
    · have hkc : k < chN q len := hlt.2 hPl
      have hne : ¬ P = cap := by omega
      have hne2 : ¬ cap = P := by omega
      clear hlt
      have hml : (k + 1 ≤ chN q len) := hkc
      rcases Nat.lt_or_ge (len - P) q with hmin | hmin
      · obtain ⟨D, hD⟩ : ∃ D, len - P = D := ⟨_, rfl⟩
        have hDl : P + D = len := by omega
        have hmn : min q (len - P) = D := by omega
        have hch : chV b off q len k = .slice (some ⟨b, off + P, none⟩) D D := by unfold chV; rw [HP.out, hmn]
        have hD1 : 1 ≤ D := by omega
        have hD2 : D < q := by omega
        have hD3 : (P : Int) + (D : Int) ≤ (cap : Int) := by omega
        have hD4 : (P : Int) + (D : Int) ≤ (len : Int) := by omega
        have hD5 : ((P : Int) + (D : Int)).toNat = P + D := by omega
        have hD6 : P + D - P = D := by omega
        have HDL := Lib.hid hDl
        clear hmn hDl
        gi_wp2
        gi_quiet (fail)
        obtain ⟨fn, tmps, assign, body, hy, hR⟩ := hY _ k (wr.drewN nq) (hJ _ _ nq hJs) (by rw [List.length_range]; exact hkc) hkc
        rw [hch] at hy
        gi_wp2
        refine hR.mono ?_
        rintro e W3 (⟨rfl, hJ3, hk3⟩ | ⟨rfl, hJx3⟩)
        · have d1 := (kpB_cell hk3).1.trans c1
          have d2 := (kpB_cell hk3).2.trans c2
          clear hy hR hk3 hch
          gi_wp2
          go_roundw
          case rel => exact ⟨k + 1, P + q, hkc, HPN.out, by go_num, by rw [List.range_succ]; exact hJ3, d1, d2⟩
          case measure => simp [intOf]; omega
        · clear hy hR hch
          gi_wp2
          refine bodyPost_ret (results_none rfl _ _ _) rfl ?_
          exact ⟨⟨_, rfl⟩, .inr ⟨_, ⟨k + 1, hkc, List.range_succ.symm⟩, hJx3⟩⟩
      · obtain ⟨D, hD⟩ : ∃ D, len - P = D := ⟨_, rfl⟩
        have hmn : min q (len - P) = q := by omega
        have hch : chV b off q len k = .slice (some ⟨b, off + P, none⟩) q q := by unfold chV; rw [HP.out, hmn]
        have hD2 : q ≤ D := by omega
        have hD3 : (P : Int) + (q : Int) ≤ (cap : Int) := by omega
        have hD4 : (P : Int) + (q : Int) ≤ (len : Int) := by omega
        have hD5 : ((P : Int) + (q : Int)).toNat = P + q := by omega
        have hD6 : P + q - P = q := by omega
        clear hmn
        gi_wp2
        gi_quiet (fail)
        obtain ⟨fn, tmps, assign, body, hy, hR⟩ := hY _ k (wr.drewN nq) (hJ _ _ nq hJs) (by rw [List.length_range]; exact hkc) hkc
        rw [hch] at hy
        gi_wp2
        refine hR.mono ?_
        rintro e W3 (⟨rfl, hJ3, hk3⟩ | ⟨rfl, hJx3⟩)
        · have d1 := (kpB_cell hk3).1.trans c1
          have d2 := (kpB_cell hk3).2.trans c2
          clear hy hR hk3 hch
          gi_wp2
          go_roundw
          case rel => exact ⟨k + 1, P + q, hkc, HPN.out, by go_num, by rw [List.range_succ]; exact hJ3, d1, d2⟩
          case measure => simp [intOf]; omega
        · clear hy hR hch
          gi_wp2
          refine bodyPost_ret (results_none rfl _ _ _) rfl ?_
          exact ⟨⟨_, rfl⟩, .inr ⟨_, ⟨k + 1, hkc, List.range_succ.symm⟩, hJx3⟩⟩
    · have hkc : k = chN q len := by
        rcases Nat.lt_or_ge k (chN q len) with h | h
        · exact absurd (hlt.1 h) hPl
        · omega
      clear hlt
      gi_wp2
      go_end0
      exact ⟨⟨_, rfl⟩, .inl ⟨_, by rw [← hkc], hJs⟩⟩


set_option maxRecDepth 100000 in
set_option maxHeartbeats 1000000 in
theorem Chunk0_float32_in (n : Nat) (l Bs Bq : Nat) (J : List Nat → World → Prop) (W : World) (hBs : W.cell? ⟨Bs, 0, none⟩ = some (.slice none 0 0)) (h0 : J [] W) :
    CallsIn Fence.wide n Try.prog 77 #[.func (.yield l) #[] #[], .pointer (some ⟨Bs, 0, none⟩), .pointer (some ⟨Bq, 0, none⟩)] W fun e W' => (∃ v, e = .returned v) ∧ J [] W' := by
  refine callsIn_of_wp Try.func77 rfl trivial ?_ rfl
  simp only [Try.ntmps77, List.size_toArray, List.length_cons, List.length_nil, Nat.reduceAdd, Nat.reduceSub, Array.replicate_succ, Array.replicate_zero, List.push_toArray, List.append_toArray, List.nil_append, List.cons_append]
  gi_wp2
  gi_loopw [4] (fun i wr => i = .int .i64 0 ∧ J [] wr ∧ wr.cell? ⟨Bs, 0, none⟩ = some (.slice none 0 0)) (fun _ _ => 0)
  case atStart => exact ⟨rfl, h0, hBs⟩
  case round =>
    obtain ⟨rfl, hJs, c1⟩ := hrel
    gi_wp2
    go_end0
    exact ⟨⟨_, rfl⟩, hJs⟩

theorem Chunk_float32_stops (n : Nat) (hn : 1 ≤ n) (Bs Bq b off len cap q : Nat) (A : Option Addr) (hA : ChA A b off len) (hq1 : 1 ≤ q) (hq2 : q ≤ 1048576) (hlen : len ≤ 1048576) (hcap : len ≤ cap) (hcap2 : cap ≤ 9223372036854775807) (hnil : A = none → cap = 0) (w : World) (hs : Bs < w.heap.size) (hq : Bq < w.heap.size)
    (hBs : w.cell? ⟨Bs, 0, none⟩ = some (.slice A len cap)) (hBq : w.cell? ⟨Bq, 0, none⟩ = some (.int .i64 (q : Int))) :
    SeqStopsK Fence.wide n Try.prog 77 #[.pointer (some ⟨Bs, 0, none⟩), .pointer (some ⟨Bq, 0, none⟩)] (fun x : Part (chN q len) => #[chV b off q len x.1]) (KpB Bs Bq) (fun ys => ys.map (·.1) = List.range (chN q len)) (fun pre => ∃ k, k ≤ chN q len ∧ pre.map (·.1) = List.range k) (chN q len) w := fun l J Jx W hW hJ _ hY h0 => by
  have c1 := (hW.cell (p := ⟨Bs, 0, none⟩) hs).trans hBs
  have c2 := (hW.cell (p := ⟨Bq, 0, none⟩) hq).trans hBq
  rcases hA with rfl | ⟨rfl, rfl⟩
  · refine (Chunk1_float32_in n hn l Bs Bq b off len cap q hq1 hq2 hlen hcap hcap2 (fun pre W => ∃ p : List (Part (chN q len)), p.map (·.1) = pre ∧ J p W) (fun pre W => ∃ p : List (Part (chN q len)), p.map (·.1) = pre ∧ Jx p W) ?_ ?_ W c1 c2 ⟨[], rfl, h0⟩).mono ?_
    · rintro pre W k ⟨p, hp, h⟩
      exact ⟨p, hp, hJ _ _ _ none h ⟨rfl, rfl, rfl, Nat.le_refl _, fun _ _ _ => rfl⟩ (fun r e => by cases e)⟩
    · rintro pre x W ⟨p, rfl, h⟩ hlen2 hx
      rw [List.length_map] at hlen2
      refine YieldAt.mono (hY p ⟨x, hx⟩ W h hlen2) ?_
      rintro e W' (⟨he, hj, hk⟩ | ⟨he, hj⟩)
      · exact .inl ⟨he, ⟨_, by rw [List.map_append]; rfl, hj⟩, hk⟩
      · exact .inr ⟨he, ⟨_, by rw [List.map_append]; rfl, hj⟩⟩
    · rintro e W' ⟨he, ⟨ys, rfl, p, hp, hj⟩ | ⟨pre, ⟨k, hk, rfl⟩, p, hp, hj⟩⟩
      · exact ⟨he, .inl ⟨p, hp, hj⟩⟩
      · exact ⟨he, .inr ⟨p, ⟨k, hk, hp⟩, hj⟩⟩
  · have hc0 := hnil rfl
    subst hc0
    have hz : chN q 0 = 0 := by unfold chN; rw [Nat.zero_add]; exact Nat.div_eq_of_lt (by omega)
    refine (Chunk0_float32_in n l Bs Bq (fun pre W => pre = [] ∧ J [] W) W c1 ⟨rfl, h0⟩).mono ?_
    rintro e W' ⟨he, _, hj⟩
    exact ⟨he, .inl ⟨[], by rw [hz]; rfl, hj⟩⟩

set_option maxHeartbeats 1000000 in
theorem Chunk_float32_in (n : Nat) (A : Option Addr) (len cap q : Nat) (hq1 : 1 ≤ q) (w : World) :
    CallsIn Fence.wide n Try.prog 43 #[.slice A len cap, .int .i64 (q : Int)] w fun e w' => e = .returned (.func (.func 77) #[] #[.pointer (some ⟨w.heap.size, 0, none⟩), .pointer (some ⟨w.heap.size + 1, 0, none⟩)]) ∧ w' = (w.alloc (.cells #[.slice A len cap] 25)).alloc (.cells #[.int .i64 (q : Int)] 3) := by
  refine callsIn_of_wp Try.func43 rfl trivial ?_ rfl
  simp only [Try.ntmps43, List.size_toArray, List.length_cons, List.length_nil, Nat.reduceAdd, Nat.reduceSub, Array.replicate_succ, Array.replicate_zero, List.push_toArray, List.append_toArray, List.nil_append, List.cons_append]
  gi_wp2
  go_ret
  exact ⟨rfl, rfl⟩



set_option maxHeartbeats 1000000 in
/-- the rule for a loop over the parts of a slice, in a walk outside fences -/
theorem wp_chunk_float32 {g : Operand} {ps : Array Tmp} {assign body : Code} {Q : Exit → Act → World → Prop} {a : Act} {w : World} (Bs Bq b off len cap q : Nat) (A : Option Addr)
    (hg : a.eval g = .func (.func 77) #[] #[.pointer (some ⟨Bs, 0, none⟩), .pointer (some ⟨Bq, 0, none⟩)]) (hps : ps.size = 1)
    (hA : ChA A b off len) (hq1 : 1 ≤ q) (hq2 : q ≤ 1048576) (hlen : len ≤ 1048576) (hcap : len ≤ cap) (hcap2 : cap ≤ 9223372036854775807) (hnil : A = none → cap = 0) (hs : Bs < w.heap.size) (hq : Bq < w.heap.size)
    (hBs : w.cell? ⟨Bs, 0, none⟩ = some (.slice A len cap)) (hBq : w.cell? ⟨Bq, 0, none⟩ = some (.int .i64 (q : Int)))
    (I : List (Part (chN q len)) → World → Prop) (Ix : Code → List (Part (chN q len)) → World → Prop) (hI : OwnFrom w.heap.size I) (hIx : ∀ c, OwnFrom w.heap.size (Ix c)) (h0 : I [] w) (a₁ : Part (chN q len) → Act)
    (hassign : ∀ (l : Nat) (x : Part (chN q len)) (W : World) (K : Act → World → Prop), K (a₁ x) W →
      assign.wpIn (Fence.wide.inRound l) (3 - 1 - 1) Try.prog (Exit.then K (fun _ _ _ => False)) { tmps := (ps.zip #[chV b off q len x.1]).foldl (fun t (p, v) => t.setIfInBounds p v) a.tmps, defers := [] } W)
    (hbody : ∀ (l : Nat) (pre : List (Part (chN q len))) (x : Part (chN q len)) (W : World), I pre W → pre.length < chN q len → body.wpIn (Fence.wide.inRound l) (3 - 1 - 1) Try.prog (ownPostG w.heap.size (KpB Bs Bq) I Ix (pre ++ [x]) W) (a₁ x) W)
    (hdone : ∀ (D : Nat) (xs : List (Part (chN q len))) (W : World), w.heap.size ≤ D → xs.map (·.1) = List.range (chN q len) → I xs W → W.heap[D]? = some (.deferred (some [])) → Q .normal { a with defers := { target := .collected D, args := #[] } :: a.defers } W)
    (hstop : ∀ (D : Nat) (c : Code) (pre : List (Part (chN q len))) (W : World), w.heap.size ≤ D → (∃ k, k ≤ chN q len ∧ pre.map (·.1) = List.range k) → Ix c pre W → W.heap[D]? = some (.deferred (some [])) → c.wp Try.prog Q { a with defers := { target := .collected D, args := #[] } :: a.defers } W) :
    (Code.rangeFunc g ps assign body).wp Try.prog Q a w :=
  (wpIn_wide (n := 3)).1 (wpIn_rangeFunc_ownG rfl (by decide) hg trivial (enters_of Try.func77 (by kernel_rfl) rfl)
    (Chunk_float32_stops (3 - 1) (by decide) Bs Bq b off len cap q A hA hq1 hq2 hlen hcap hcap2 hnil w hs hq hBs hBq) (fun h k => kpB_t h k) (fun W l o o' h1 h2 h3 h4 => kpB_b hs hq W l o o' h1 h2 h3 h4) (Below.refl _ _) (fun x => by rw [hps]; rfl) I Ix hI hIx h0 a₁ hassign hbody hdone
    (fun D c pre W h1 h2 h3 h4 => wpIn_wide.2 (hstop D c pre W h1 h2 h3 h4)))
/-- the same, the round's frame said by its two slots -/
theorem wp_chunk_float32' {g : Operand} {ps : Array Tmp} {assign body : Code} {Q : Exit → Act → World → Prop} {a : Act} {w : World} (p sl : Nat) (Bs Bq b off len cap q : Nat) (A : Option Addr)
    (hg : a.eval g = .func (.func 77) #[] #[.pointer (some ⟨Bs, 0, none⟩), .pointer (some ⟨Bq, 0, none⟩)]) (hps : ps.size = 1)
    (hA : ChA A b off len) (hq1 : 1 ≤ q) (hq2 : q ≤ 1048576) (hlen : len ≤ 1048576) (hcap : len ≤ cap) (hcap2 : cap ≤ 9223372036854775807) (hnil : A = none → cap = 0) (hs : Bs < w.heap.size) (hq : Bq < w.heap.size)
    (hBs : w.cell? ⟨Bs, 0, none⟩ = some (.slice A len cap)) (hBq : w.cell? ⟨Bq, 0, none⟩ = some (.int .i64 (q : Int)))
    (I : List (Part (chN q len)) → World → Prop) (hI : OwnFrom w.heap.size I) (h0 : I [] w)
    (hassign : ∀ (l : Nat) (x : Part (chN q len)) (W : World) (K : Act → World → Prop), K { tmps := (a.tmps.setIfInBounds p (chV b off q len x.1)).setIfInBounds sl (chV b off q len x.1), defers := [] } W →
      assign.wpIn (Fence.wide.inRound l) (3 - 1 - 1) Try.prog (Exit.then K (fun _ _ _ => False)) { tmps := (ps.zip #[chV b off q len x.1]).foldl (fun t (p, v) => t.setIfInBounds p v) a.tmps, defers := [] } W)
    (hbody : ∀ (l : Nat) (pre : List (Part (chN q len))) (x : Part (chN q len)) (W : World), I pre W → pre.length < chN q len → body.wpIn (Fence.wide.inRound l) (3 - 1 - 1) Try.prog (ownPostG w.heap.size (KpB Bs Bq) I (fun _ _ _ => False) (pre ++ [x]) W) { tmps := (a.tmps.setIfInBounds p (chV b off q len x.1)).setIfInBounds sl (chV b off q len x.1), defers := [] } W)
    (hdone : ∀ (D : Nat) (xs : List (Part (chN q len))) (W : World), w.heap.size ≤ D → xs.map (·.1) = List.range (chN q len) → I xs W → W.heap[D]? = some (.deferred (some [])) → Q .normal { a with defers := { target := .collected D, args := #[] } :: a.defers } W) :
    (Code.rangeFunc g ps assign body).wp Try.prog Q a w :=
  wp_chunk_float32 Bs Bq b off len cap q A hg hps hA hq1 hq2 hlen hcap hcap2 hnil hs hq hBs hBq I (fun _ _ _ => False) hI (fun _ _ _ _ _ h _ _ => h) h0 _ hassign hbody hdone (fun _ _ _ _ _ _ h _ => h.elim)

end Go.Proofs.Ytopeidmafalklaa


namespace Go.Proofs.Ytopeidmafalklaa
open Go.RowKit Go.Shelf
attribute [local go_sem] Oper.semAt_some

/-- the box Bo holds a slice that owns the elements xs, in a row from block D on -/
def Bufd (W : World) (D Bo : Nat) (T e : TypeId) (xs : List Value) : Prop :=
  ∃ v, Boxed W Bo T v ∧ W.ownsRow D e 1 v xs.length xs ∧ ∃ g cap, v = .slice (some ⟨g, 0, none⟩) xs.length cap
theorem bufd_own {β : Type} (D Bo : Nat) (T e : TypeId) (f : β → List Value) : Own (fun s W => Bufd W D Bo T e (f s)) :=
  holdsRow_own D Bo T e 1 (fun s => (f s).length) f (fun s v => ∃ g cap, v = .slice (some ⟨g, 0, none⟩) (f s).length cap)
theorem own_form {w : World} {base : Nat} {e : TypeId} {n : Nat} {v : Value} {xs : List Value} (h : w.ownsRow base e 1 v n xs) (hn : 0 < n) : ∃ g cap, v = .slice (some ⟨g, 0, none⟩) n cap := by
  rcases h.2 with ⟨_, h0⟩ | ⟨g, cap, _, rfl, _⟩
  · omega
  · exact ⟨g, cap, rfl⟩

/-- what stands behind an append onto a box's row, the store done -/
structure Appd (W w1 : World) (D Bo : Nat) (T e : TypeId) (v v' : Value) (N : Nat) (ys : List Value) : Prop where
  old : Boxed w1 Bo T v
  new : Boxed (w1.setCell ⟨Bo, 0, none⟩ v') Bo T v'
  row : (w1.setCell ⟨Bo, 0, none⟩ v').ownsRow D e 1 v' N ys
  oth : KeepsOthers W (w1.setCell ⟨Bo, 0, none⟩ v')
  bel : Below D W (w1.setCell ⟨Bo, 0, none⟩ v')
  bel0 : Below D W w1
  keep : ∀ k, k < W.heap.size → some k ≠ v.ownBlock → k ≠ Bo → (w1.setCell ⟨Bo, 0, none⟩ v').heap[k]? = W.heap[k]?
  form : ∃ g cap, v' = .slice (some ⟨g, 0, none⟩) N cap
theorem row_len {w : World} {base : Nat} {e : TypeId} {n : Nat} {v : Value} {xs : List Value} (h : w.ownsRow base e 1 v n xs) : xs.length = n := by have := h.1; omega
theorem Appd.buf {W w1 : World} {D Bo : Nat} {T e : TypeId} {v v' : Value} {N : Nat} {ys : List Value} (h : Appd W w1 D Bo T e v v' N ys) : Bufd (w1.setCell ⟨Bo, 0, none⟩ v') D Bo T e ys := by
  have hl := row_len h.row
  have h2 := h.row
  have h3 := h.form
  rw [← hl] at h2 h3
  exact ⟨v', h.new, h2, h3⟩
theorem Appd.box {W w1 : World} {D Bo : Nat} {T e : TypeId} {v v' : Value} {N n : Nat} {ys xs : List Value} (h : Appd W w1 D Bo T e v v' N ys) (hrow : W.ownsRow D e 1 v n xs) {k : Nat} {t : TypeId} {u : Value} (hk : Boxed W k t u) (hte : t ≠ e) (hne : k ≠ Bo) : Boxed (w1.setCell ⟨Bo, 0, none⟩ v') k t u :=
  (h.keep k hk.lt (hk.not_row hte hrow) hne).trans hk
theorem appd_of {W W0 w1 : World} {D Bo : Nat} {T e : TypeId} {v v' : Value} {n N : Nat} {xs ys : List Value} {row : Option Nat}
    (hv : Boxed W Bo T v) (hte : T ≠ e) (hrow : W.ownsRow D e 1 v n xs) (hD : D ≤ W.heap.size) (hB : D ≤ Bo) (hW0 : W.grownBy W0 none) (hrow0 : row = v.ownBlock)
    (hown' : w1.ownsRow D e 1 v' N ys) (hgrow : W0.grownBy w1 row) (hn : 0 < N) : Appd W w1 D Bo T e v v' N ys := by
  subst hrow0
  have hrow2 : W0.ownsRow D e 1 v n xs := hrow.kept hW0 (by
    rcases hvb : v.ownBlock with _ | j
    · exact .inl rfl
    · exact .inr (by simp))
  have hv0 : Boxed W0 Bo T v := hv.kept hW0 (by simp)
  have hv1 : Boxed w1 Bo T v := hv0.kept hgrow (hv0.not_row hte hrow2)
  refine ⟨hv1, hv1.set v', hown'.kept (grownBy_setCell' w1 Bo v') (.inr (hv1.not_row hte hown').symm), ?_, ?_, ?_, ?_, own_form hown' hn⟩
  · refine ((KeepsOthers.of_grownBy hW0 (by simp)).trans (KeepsOthers.of_grownBy hgrow fun j o ej hj => ?_)).trans (KeepsOthers.setCell _ _ _)
    rcases hrow2.2 with ⟨rfl, _⟩ | ⟨g, cap, cur, rfl, _, hgb, _⟩
    · simp [Value.ownBlock] at ej
    · obtain rfl : g = j := by simpa [Value.ownBlock] using ej
      rw [hgb] at hj; cases hj; rfl
  · refine (((Below.refl D W).grown hW0 hD (by simp)).grown hgrow (Nat.le_trans hD hW0.size) fun j ej => ?_).setCell (p := ⟨Bo, 0, none⟩) hB v'
    rcases hrow.2 with ⟨rfl, _⟩ | ⟨g, cap, cur, rfl, hb, _, _⟩
    · simp [Value.ownBlock] at ej
    · obtain rfl : g = j := by simpa [Value.ownBlock] using ej
      exact hb
  · refine ((Below.refl D W).grown hW0 hD (by simp)).grown hgrow (Nat.le_trans hD hW0.size) fun j ej => ?_
    rcases hrow.2 with ⟨rfl, _⟩ | ⟨g, cap, cur, rfl, hb, _, _⟩
    · simp [Value.ownBlock] at ej
    · obtain rfl : g = j := by simpa [Value.ownBlock] using ej
      exact hb
  · intro k hk h1 h2
    have e1 := hW0.block k hk (by simp)
    have e2 := hgrow.block k (Nat.lt_of_lt_of_le hk hW0.size) h1
    have e3 := (grownBy_setCell' w1 Bo v').block k (Nat.lt_of_lt_of_le hk (Nat.le_trans hW0.size hgrow.size)) (by intro h; injection h with h; exact h2 h)
    rw [e3, e2, e1]
theorem grown_allocW (W : World) (o : Go.Obj) : W.grownBy (W.alloc o) none := World.grownBy_alloc W o none

/-- append of some one-cell elements, just laid, to a box's row -/
theorem appBx {P : Program} {t e : TypeId} (ht : P.underlying t = some (.slice e)) {z : Value} {bytes : Nat} (hi : (P.info? e).map (fun i => (i.zero, i.size, i.bytes)) = some (some z, 1, bytes)) (hz : z.cells.size = 1) (hby : bytes ≤ 64)
    {ops : Array Oper} {rest : List Oper} {o : Oper} {a : Act} {Q : Exit → Act → World → Prop} (hgd : o.guard = none) (s x : Operand)
    (ho : o.op = .call { callee := .builtin .append, args := #[s, x], argTypes := #[t, t] }) (W : World) (D Bo : Nat) (T : TypeId) (v : Value) (n : Nat) (xs : List Value) (hs : a.eval s = v) (hv : Boxed W Bo T v) (hte : T ≠ e) (hown : W.ownsRow D e 1 v n xs) (hD : D ≤ W.heap.size) (hB : D ≤ Bo)
    (G : Nat) (hG : G = W.heap.size) (C : Array Value) (et : TypeId) (m c : Nat) (news : List Value) (hx : a.eval x = .slice (some ⟨G, 0, none⟩) m c) (hm : news.length = m) (hm0 : 0 < m) (hc : ∀ j u, news[j]? = some u → (W.alloc (.cells C et)).cell? ⟨W.heap.size, j, none⟩ = some u) (h1 : ∀ u ∈ news, u.oneCell' = true)
    (hlen : n + m ≤ 1099511627776)
    (h : ∀ v' w1 N, Hid (N = n + m) → Appd W w1 D Bo T e v v' N (xs ++ news) → wpList P ops Q rest (a.put o.dst v') w1) : wpList P ops Q (o :: rest) a (W.alloc (.cells C et)) := by
  subst hG
  obtain ⟨i, hi1, hi2, hi3, hi4⟩ := info_ok hi
  refine wpList_append_own (P := P) _ hgd s x t ho D e i z 1 bytes ht hi1 hi2 hi3 hi4 hz (by decide) v n xs hs (hown.alloc _) ⟨W.heap.size, 0, none⟩ m c news hx (by omega) ?_ h1 (by unfold maxLen; omega) ?_ (Nat.le_trans hD (by simp)) ?_
  · intro j u hu
    have e1 : (⟨W.heap.size, 0, none⟩ : Addr).add j = ⟨W.heap.size, j, none⟩ := by unfold Addr.add; split <;> simp_all
    rw [e1]
    exact hc j u hu
  · have h2 : (n + m) * bytes ≤ 1099511627776 * 64 := Nat.mul_le_mul hlen hby
    omega
  · intro v' w' h2 h3 _
    exact h v' w' _ (Lib.hid rfl) (appd_of hv hte hown hD hB (grown_allocW W _) rfl h2 h3 (by omega))
/-- the same inside a fence -/
theorem appBxIn {F : Fence} {nf : Nat} {P : Program} {t e : TypeId} (ht : P.underlying t = some (.slice e)) {z : Value} {bytes : Nat} (hi : (P.info? e).map (fun i => (i.zero, i.size, i.bytes)) = some (some z, 1, bytes)) (hz : z.cells.size = 1) (hby : bytes ≤ 64)
    {ops : Array Oper} {rest : List Oper} {o : Oper} {a : Act} {Q : Exit → Act → World → Prop} (hgd : o.guard = none) (s x : Operand)
    (ho : o.op = .call { callee := .builtin .append, args := #[s, x], argTypes := #[t, t] }) (W : World) (D Bo : Nat) (T : TypeId) (v : Value) (n : Nat) (xs : List Value) (hs : a.eval s = v) (hv : Boxed W Bo T v) (hte : T ≠ e) (hown : W.ownsRow D e 1 v n xs) (hD : D ≤ W.heap.size) (hB : D ≤ Bo)
    (G : Nat) (hG : G = W.heap.size) (C : Array Value) (et : TypeId) (m c : Nat) (news : List Value) (hx : a.eval x = .slice (some ⟨G, 0, none⟩) m c) (hm : news.length = m) (hm0 : 0 < m) (hc : ∀ j u, news[j]? = some u → (W.alloc (.cells C et)).cell? ⟨W.heap.size, j, none⟩ = some u) (h1 : ∀ u ∈ news, u.oneCell' = true)
    (hlen : n + m ≤ 1099511627776)
    (h : ∀ v' w1 N, Hid (N = n + m) → Appd W w1 D Bo T e v v' N (xs ++ news) → wpListIn F nf P ops Q rest (a.put o.dst v') w1) : wpListIn F nf P ops Q (o :: rest) a (W.alloc (.cells C et)) := by
  subst hG
  obtain ⟨i, hi1, hi2, hi3, hi4⟩ := info_ok hi
  refine wpListIn_append_own (P := P) _ hgd s x t ho D e i z 1 bytes ht hi1 hi2 hi3 hi4 hz (by decide) v n xs hs (hown.alloc _) ⟨W.heap.size, 0, none⟩ m c news hx (by omega) ?_ h1 (by unfold maxLen; omega) ?_ (Nat.le_trans hD (by simp)) ?_
  · intro j u hu
    have e1 : (⟨W.heap.size, 0, none⟩ : Addr).add j = ⟨W.heap.size, j, none⟩ := by unfold Addr.add; split <;> simp_all
    rw [e1]
    exact hc j u hu
  · have h2 : (n + m) * bytes ≤ 1099511627776 * 64 := Nat.mul_le_mul hlen hby
    omega
  · intro v' w' h2 h3 _
    exact h v' w' _ (Lib.hid rfl) (appd_of hv hte hown hD hB (grown_allocW W _) rfl h2 h3 (by omega))
/-- append of some one-cell elements to a row of the call's own; what is no cells stays -/
theorem appNK {P : Program} {t e : TypeId} (ht : P.underlying t = some (.slice e)) {z : Value} {bytes : Nat} (hi : (P.info? e).map (fun i => (i.zero, i.size, i.bytes)) = some (some z, 1, bytes)) (hz : z.cells.size = 1) (hby : bytes ≤ 64)
    {ops : Array Oper} {rest : List Oper} {o : Oper} {a : Act} {Q : Exit → Act → World → Prop} (hgd : o.guard = none) (s x : Operand)
    (ho : o.op = .call { callee := .builtin .append, args := #[s, x], argTypes := #[t, t] }) (W : World) (D : Nat) (v : Value) (n : Nat) (xs : List Value) (hs : a.eval s = v) (hown : W.ownsRow D e 1 v n xs) (hD : D ≤ W.heap.size)
    (G : Nat) (hG : G = W.heap.size) (C : Array Value) (et : TypeId) (m c : Nat) (news : List Value) (hx : a.eval x = .slice (some ⟨G, 0, none⟩) m c) (hm : news.length = m) (hc : ∀ j u, news[j]? = some u → (W.alloc (.cells C et)).cell? ⟨W.heap.size, j, none⟩ = some u) (h1 : ∀ u ∈ news, u.oneCell' = true)
    (hlen : n + m ≤ 1099511627776)
    (h : ∀ v' w1, w1.ownsRow D e 1 v' (n + m) (xs ++ news) → Below D W w1 → KeepsOthers W w1 → wpList P ops Q rest (a.put o.dst v') w1) : wpList P ops Q (o :: rest) a (W.alloc (.cells C et)) := by
  subst hG
  obtain ⟨i, hi1, hi2, hi3, hi4⟩ := info_ok hi
  refine wpList_append_own (P := P) _ hgd s x t ho D e i z 1 bytes ht hi1 hi2 hi3 hi4 hz (by decide) v n xs hs (hown.alloc _) ⟨W.heap.size, 0, none⟩ m c news hx (by omega) ?_ h1 (by unfold maxLen; omega) ?_ (Nat.le_trans hD (by simp)) ?_
  · intro j u hu
    have e1 : (⟨W.heap.size, 0, none⟩ : Addr).add j = ⟨W.heap.size, j, none⟩ := by unfold Addr.add; split <;> simp_all
    rw [e1]
    exact hc j u hu
  · have h2 : (n + m) * bytes ≤ 1099511627776 * 64 := Nat.mul_le_mul hlen hby
    omega
  · intro v' w' h2 h3 _
    refine h v' w' h2 ?_ ?_
    · refine ((Below.refl D W).alloc hD _).grown h3 (Nat.le_trans hD (by simp)) fun j ej => ?_
      rcases hown.2 with ⟨rfl, _⟩ | ⟨g, cap, cur, rfl, hb, _, _⟩
      · simp [Value.ownBlock] at ej
      · obtain rfl : g = j := by simpa [Value.ownBlock] using ej
        exact hb
    · refine (KeepsOthers.alloc W _).trans (KeepsOthers.of_grownBy h3 fun j o ej hj => ?_)
      rcases (hown.alloc (.cells C et)).2 with ⟨rfl, _⟩ | ⟨g, cap, cur, rfl, _, hgb, _⟩
      · simp [Value.ownBlock] at ej
      · obtain rfl : g = j := by simpa [Value.ownBlock] using ej
        rw [hgb] at hj; cases hj; rfl
theorem boxed_keep {W W' : World} {B k : Nat} {t : TypeId} {v : Value} {row : Option Nat} (h : Boxed W k t v) (hg : W.grownBy W' row) (hr : ∀ r, row = some r → B ≤ r ∧ ∃ o : Go.Obj, W.heap[r]? = some o ∧ o.isCells = false) : Boxed W' k t v :=
  h.kept hg (fun e => by
    obtain ⟨_, o, ho, hc⟩ := hr k e.symm
    rw [show W.heap[k]? = _ from h] at ho
    cases ho
    cases hc)
theorem loopI_own {β : Type} (D Bo : Nat) (T e : TypeId) (f : β → List Value) (Bs : Nat) (ts : TypeId) (us : Value) (Bq : Nat) (tq : TypeId) (uq : Value) (w1 : World) (B : Nat) (h1 : D ≤ w1.heap.size) (h2 : D ≤ B) :
    OwnFrom B (fun s W => (Bufd W D Bo T e (f s) ∧ Boxed W Bs ts us ∧ Boxed W Bq tq uq) ∧ Below D w1 W) := by
  rintro s W W' row ⟨⟨a1, a2, a3⟩, a4⟩ hg hr
  refine ⟨⟨(bufd_own D Bo T e f).from B s W W' row a1 hg hr, boxed_keep a2 hg hr, boxed_keep a3 hg hr⟩, ?_⟩
  exact a4.grown hg (Nat.le_trans h1 a4.size) fun k hk => Nat.le_trans h2 (hr k hk).1

end Go.Proofs.Ytopeidmafalklaa
