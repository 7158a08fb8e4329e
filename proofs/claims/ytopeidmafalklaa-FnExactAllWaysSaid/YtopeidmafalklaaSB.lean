/-
  Contracts: bits sent by a coder.
  Conditions: lengths at most 1048576.
-/
import Derived.Test.YtopeidmafalklaaSV
import Derived.Test.YtopeidmafalklaaH
import Derived.Test.YtopeidmafalklaaCT
import Derived.Deep.RegionHeld3
namespace Go.Proofs.Ytopeidmafalklaa
open Go.RowKit


def oddI (x : Int) : Bool := pcI x % 2 == 1
theorem oddI_step : ∀ n < 32, 0 < n → oddI ((n : Nat) : Int) = ((((n : Nat) : Int) % 2 == 1) != oddI (((n / 2 : Nat)) : Int)) := by decide +kernel
theorem pc_bd : ∀ n < 33, 0 ≤ pcI ((n : Nat) : Int) ∧ pcI ((n : Nat) : Int) ≤ 6 := by decide +kernel
theorem and_bd0 : ∀ a < 32, ∀ b < 32, 0 ≤ bits .and .i64 ((a : Nat) : Int) ((b : Nat) : Int) ∧ bits .and .i64 ((a : Nat) : Int) ((b : Nat) : Int) ≤ 31 := by decide +kernel
theorem and_bd {a b : Int} (h0 : 0 ≤ a) (h1 : a ≤ 31) (h2 : 0 ≤ b) (h3 : b ≤ 31) : 0 ≤ bits .and .i64 a b ∧ bits .and .i64 a b ≤ 31 := by
  obtain ⟨a, rfl⟩ : ∃ n : Nat, a = n := ⟨a.toNat, by omega⟩
  obtain ⟨b, rfl⟩ : ∃ n : Nat, b = n := ⟨b.toNat, by omega⟩
  exact and_bd0 a (by omega) b (by omega)


set_option maxRecDepth 100000 in
theorem impl_weightOf_c (w : World) (x : Int) (h0 : 0 ≤ x) (h1 : x ≤ 32) : Calls Try.prog 94 #[.int .i64 x] w fun e w' => e = .returned (.int .i64 (pcI x)) ∧ w = w' := by
  have hcv : IntKind.u64.wrap x = x := IntWalk.u64_in _ (by omega)
  go_enter Try.func94, Try.ntmps94
  go_wp2_with (go_at_call 98; refine (OnesCount64_c _ _ h0 h1).mono ?_; rintro e w' ⟨rfl, rfl⟩)
  have hp := pc_bd x.toNat (by omega)
  rw [show ((x.toNat : Nat) : Int) = x by omega] at hp
  go_ret
  exact ⟨rfl, rfl⟩
set_option maxRecDepth 100000 in
theorem impl_isOdd_c (w : World) (x : Int) (h0 : 0 ≤ x) (h1 : x ≤ 32) : Calls Try.prog 83 #[.int .i64 x] w fun e w' => e = .returned (.bool (oddI x)) ∧ w = w' := by
  have hp := pc_bd x.toNat (by omega)
  rw [show ((x.toNat : Nat) : Int) = x by omega] at hp
  go_enter Try.func83, Try.ntmps83
  go_wp2_with (go_at_call 94; refine (impl_weightOf_c _ _ h0 h1).mono ?_; rintro e w' ⟨rfl, rfl⟩)
  go_ret
  exact ⟨ret_bool rfl, rfl⟩


set_option maxRecDepth 100000 in
theorem spec_l07Odd_c (w : World) (x : Int) (h0 : 0 ≤ x) (h1 : x ≤ 31) : Calls Try.prog 89 #[.int .i64 x] w fun e w' => e = .returned (.bool (oddI x)) ∧ w = w' := by
  go_enter Try.func89, Try.ntmps89
  go_wp2
  go_loop [0, 3] (fun y o => ∃ (k : Nat) (d : Bool), y = .int .i64 (k : Int) ∧ o = .bool d ∧ k < 32 ∧ (d != oddI (k : Int)) = oddI x) (fun y _ => (intOf y).toNat)
  case atStart => exact ⟨x.toNat, false, by rw [show ((x.toNat : Nat) : Int) = x by omega], rfl, by omega, by rw [show ((x.toNat : Nat) : Int) = x by omega]; simp⟩
  case round =>
    obtain ⟨k, d, rfl, rfl, hk, hd⟩ := hrel
    have HD := Lib.hid hd
    clear hd
    by_cases hz : 0 < k
    · have hs := oddI_step k hk hz
      have HS := Lib.hid hs
      clear hs
      go_wp2
      go_round
      case rel =>
        refine ⟨k / 2, _, by go_num, rfl, by omega, ?_⟩
        have h2 := HD.out
        rw [HS.out] at h2
        rw [← h2]
        generalize oddI ((k / 2 : Nat) : Int) = z
        generalize ((k : Int) % 2 == 1) = y
        cases d <;> cases y <;> cases z <;> rfl
      case measure => simp [intOf]; omega
    · have : k = 0 := by omega
      subst this
      go_wp2
      go_ret
      exact ⟨ret_bool (by have h2 := HD.out; rw [← h2]; cases d <;> decide), rfl⟩


def bitI (b : Bool) : Int := if b then 1 else 0
def stI (M : Nat) (bs : List Bool) : Nat → Int
  | 0 => 0
  | k + 1 => (2 * stI M bs k + bitI (bs.getD k false)) % 2 ^ M
def sentL (ms : List Int) (a : Int) : List Bool := ms.map fun m => oddI (bits .and .i64 a m)
def outR (M : Nat) (ms : List Int) (bs : List Bool) : Nat → List Bool
  | 0 => []
  | k + 1 => outR M ms bs k ++ sentL ms (2 * stI M bs k + bitI (bs.getD k false))
def sendBitsOk (m : Int) (ms : List Int) (bs : List Bool) : Bool := validCoderB m ms && decide (bs.length ≤ 40)
def sendBitsL (m : Int) (ms : List Int) (bs : List Bool) : List Bool := if sendBitsOk m ms bs then outR m.toNat ms bs (bs.length + m.toNat) else []
theorem bitI_bd (b : Bool) : 0 ≤ bitI b ∧ bitI b ≤ 1 := by cases b <;> decide
theorem two_pow_bd {M : Nat} (h : M ≤ 4) : (1 : Int) ≤ 2 ^ M ∧ (2 : Int) ^ M ≤ 16 := by
  have h5 : M = 0 ∨ M = 1 ∨ M = 2 ∨ M = 3 ∨ M = 4 := by omega
  rcases h5 with rfl | rfl | rfl | rfl | rfl <;> decide
theorem stI_bd {M : Nat} (h : M ≤ 4) (bs : List Bool) (k : Nat) : 0 ≤ stI M bs k ∧ stI M bs k ≤ 15 := by
  cases k with
  | zero => exact ⟨Int.le_refl _, by unfold stI; decide⟩
  | succ k =>
    have h1 := two_pow_bd h
    unfold stI
    have h2 := Int.emod_nonneg (2 * stI M bs k + bitI (bs.getD k false)) (show (2 : Int) ^ M ≠ 0 by omega)
    have h3 := Int.emod_lt_of_pos (2 * stI M bs k + bitI (bs.getD k false)) (show (0 : Int) < 2 ^ M by omega)
    omega
theorem sentL_len (ms : List Int) (a : Int) : (sentL ms a).length = ms.length := by simp [sentL]
theorem outR_len (M : Nat) (ms : List Int) (bs : List Bool) (k : Nat) : (outR M ms bs k).length = k * ms.length := by
  induction k with
  | zero => simp [outR]
  | succ k ih => rw [outR, List.length_append, sentL_len, ih, Nat.succ_mul]
theorem outR_bd {M : Nat} {ms : List Int} {bs : List Bool} {k : Nat} (hm : ms.length ≤ 4) (hk : k ≤ 44) : (outR M ms bs k).length ≤ 176 := by
  rw [outR_len]
  exact Nat.le_trans (Nat.mul_le_mul hk hm) (by decide)
theorem vc_facts {m : Int} {ms : List Int} (h : validCoderB m ms = true) : 1 ≤ m ∧ m ≤ 4 ∧ 1 ≤ ms.length ∧ ms.length ≤ 4 ∧ ∀ x ∈ ms, 0 ≤ x ∧ x ≤ 31 := by
  unfold validCoderB at h
  simp only [Bool.and_eq_true, decide_eq_true_eq, List.all_eq_true, inB_true] at h
  obtain ⟨⟨⟨⟨h1, h2⟩, h3⟩, h4⟩, h5⟩ := h
  refine ⟨h1, h2, h3, h4, fun x hx => ?_⟩
  have h6 := h5 x hx
  have h7 := two_pow_bd (M := m.toNat) (by omega)
  omega
theorem sendBitsL_len (m : Int) (ms : List Int) (bs : List Bool) : (sendBitsL m ms bs).length ≤ 176 := by
  unfold sendBitsL sendBitsOk
  split
  · rename_i h
    rw [Bool.and_eq_true, decide_eq_true_eq] at h
    have h1 := vc_facts h.1
    exact outR_bd h1.2.2.2.1 (by omega)
  · simp
theorem sentL_snoc {ms : List Int} {a : Int} {k : Nat} (hk : k < ms.length) : (sentL (ms.take k) a).map Value.bool ++ [Value.bool (oddI (bits .and .i64 a ms[k]))] = (sentL (ms.take (k + 1)) a).map Value.bool := by
  unfold sentL
  rw [List.take_succ_eq_append_getElem hk, List.map_append, List.map_append]
  rfl


theorem spec_l07Whole_c (w : World) (s : Int) (b : Bool) (h0 : 0 ≤ s) (h1 : s ≤ 15) : Calls Try.prog 72 #[.int .i64 s, .bool b] w fun e w' => e = .returned (.int .i64 (2 * s + bitI b)) ∧ w = w' := by
  cases b
  all_goals
    go_enter Try.func72, Try.ntmps72
    go_wp2
    go_ret
    exact ⟨ret_int (by simp [bitI]), rfl⟩


theorem l07Whole_at {w : World} {s : Int} {b : Bool} {q : Nat} (h0 : 0 ≤ s) (h1 : s ≤ 15) : Calls Try.prog 72 #[.int .i64 s, .bool b] (w.drewN q) fun e w' => e = .returned (.int .i64 (2 * s + bitI b)) ∧ ∃ k, w' = w.drewN k := by
  refine (spec_l07Whole_c _ s b h0 h1).mono ?_
  rintro e w' ⟨rfl, rfl⟩
  exact ⟨rfl, _, rfl⟩
set_option maxRecDepth 100000 in
theorem spec_l07Next_c (w : World) (g M : Nat) (s : Int) (b : Bool) (h0 : 0 ≤ s) (h1 : s ≤ 15) (hM1 : 1 ≤ M) (hM : M ≤ 4) (hc : w.cell? ⟨g, 0, none⟩ = some (.int .i64 (M : Int))) :
    Calls Try.prog 37 #[.pointer (some ⟨g, 0, none⟩), .int .i64 s, .bool b] w fun e w' => e = .returned (.int .i64 ((2 * s + bitI b) % 2 ^ M)) ∧ ∃ k, w' = w.drewN k := by
  have hb := bitI_bd b
  have h5 : M = 1 ∨ M = 2 ∨ M = 3 ∨ M = 4 := by omega
  obtain ⟨x, hx⟩ : ∃ x, 2 * s + bitI b = x := ⟨_, rfl⟩
  have hx0 : 0 ≤ x := by omega
  have hx1 : x ≤ 31 := by omega
  rw [hx]
  have HX := Lib.hid hx
  clear hx
  have hwh : ∀ q, Calls Try.prog 72 #[.int .i64 s, .bool b] (w.drewN q) fun e w' => e = .returned (.int .i64 x) ∧ ∃ k, w' = w.drewN k := fun q => by
    rw [← HX.out]; exact l07Whole_at h0 h1
  have HW := Lib.hid hwh
  clear hwh
  rcases h5 with rfl | rfl | rfl | rfl
  all_goals
    go_enter Try.func37, Try.ntmps37
    go_wp2_with fail
    go_quiet ((go_at_call 72; exact HW.out _))
    go_wp2
    go_ret
    exact ⟨ret_int (by first | rfl | (simp; done) | omega), _, rfl⟩


set_option maxRecDepth 100000 in
set_option maxHeartbeats 1000000 in
theorem spec_l07Sends_c (w : World) (g B : Nat) (A : Option Addr) (n cap : Nat) (ms : List Int) (hl : ms.length = n) (hn : n ≤ 4) (hr : ∀ x ∈ ms, 0 ≤ x ∧ x ≤ 31) (hg : g < w.heap.size) (hB : B ≤ w.heap.size) (hx : Sl w B A (ms.map (Value.int .i64))) (s : Int) (b : Bool) (h0 : 0 ≤ s) (h1 : s ≤ 15) (hc : w.cell? ⟨g, 1, none⟩ = some (.slice A n cap)) :
    Calls Try.prog 76 #[.pointer (some ⟨g, 0, none⟩), .int .i64 s, .bool b] w fun e w' => ∃ v, e = .returned v ∧ Ow w' w.heap.size 4 v ((sentL ms (2 * s + bitI b)).map Value.bool) ∧ Below w.heap.size w w' := by
  have hb := bitI_bd b
  obtain ⟨a, ha⟩ : ∃ x, 2 * s + bitI b = x := ⟨_, rfl⟩
  have ha0 : 0 ≤ a := by omega
  have ha1 : a ≤ 31 := by omega
  rw [ha]
  have HA := Lib.hid ha
  clear ha
  go_enter Try.func76, Try.ntmps76
  go_wp2_with (go_at_call 72; refine (spec_l07Whole_c _ s b h0 h1).mono ?_; rintro e w' ⟨rfl, rfl⟩; rw [HA.out])
  go_loopw [8, 19] (fun v i wr => ∃ k : Nat, k ≤ n ∧ i = .int .i64 k ∧ Ow wr w.heap.size 4 v ((sentL (ms.take k) a).map Value.bool) ∧ Below w.heap.size w wr) (fun _ i _ => n - (intOf i).toNat)
  case atStart => exact ⟨0, Nat.zero_le _, rfl, own_empty _ _ _ (Nat.le_refl _), (Below.refl _ _).alloc (Nat.le_refl _) _⟩
  case round =>
    obtain ⟨k, hk, rfl, ho, hb⟩ := hrel
    by_cases hlt : k < n
    · obtain ⟨b1, off, rfl, hbb, hc1⟩ := ((hx.more hB).below hb).get k (by omega)
      have hm := hr (ms[k]'(by omega)) (List.getElem_mem _)
      have hc2 := (hb.cell (p := ⟨g, 1, none⟩) hg).trans hc
      have hz := hb.size
      have hst := sentL_snoc (ms := ms) (a := a) (k := k) (by omega)
      obtain ⟨x, hxx⟩ : ∃ x, ms[k]'(by omega) = x := ⟨_, rfl⟩
      rw [hxx] at hc1 hm hst
      have hand := and_bd ha0 ha1 hm.1 hm.2
      have hlen : ((sentL (ms.take k) a).map Value.bool).length + 1 ≤ 1099511627776 := by simp [sentL_len]; omega
      have HT := Lib.hid hst
      clear hx hst hxx hr hc
      go_wp2_with (first
        | (go_at_call 89; refine (spec_l07Odd_c _ _ hand.1 hand.2).mono ?_; rintro e w' ⟨rfl, rfl⟩)
        | (at_builtin; refine app1 Try.underlying41 infoBool rfl (by decide) rfl _ _ rfl _ _ _ rfl (ho.alloc _) _ _ _ rfl (cell_new1 _ _ _) rfl hlen (by simp; omega) ?_; intro v' w1 ho1 hb1))
      go_roundw
      case rel =>
        refine ⟨k + 1, by omega, by go_num, ?_, (hb.alloc hz _).trans hb1⟩
        rw [← HT.out]
        exact ho1
      case measure => simp [intOf]; omega
    · have : k = n := by omega
      subst this
      go_wp2
      go_ret
      rw [take_all hl] at ho
      exact ⟨_, rfl, ho, hb⟩


set_option maxRecDepth 100000 in
theorem impl_states_c (w : World) (M : Nat) (hM1 : 1 ≤ M) (hM : M ≤ 4) (A : Option Addr) (n cap : Nat) :
    Calls Try.prog 45 #[.agg #[.int .i64 (M : Int), .slice A n cap]] w fun e w' => e = .returned (.int .i64 (2 ^ M)) ∧ Below w.heap.size w w' := by
  have h5 : M = 1 ∨ M = 2 ∨ M = 3 ∨ M = 4 := by omega
  have hB := fun M : Nat => (Below.refl w.heap.size w).alloc (Nat.le_refl _) (Obj.cells #[.int .i64 (M : Int), .slice A n cap] 29)
  have HB := Lib.hid hB
  clear hB
  rcases h5 with rfl | rfl | rfl | rfl
  · go_enter Try.func45, Try.ntmps45
    go_wp2
    go_ret
    exact ⟨ret_int (by decide), HB.out 1⟩
  · go_enter Try.func45, Try.ntmps45
    go_wp2
    go_ret
    exact ⟨ret_int (by decide), HB.out 2⟩
  · go_enter Try.func45, Try.ntmps45
    go_wp2
    go_ret
    exact ⟨ret_int (by decide), HB.out 3⟩
  · go_enter Try.func45, Try.ntmps45
    go_wp2
    go_ret
    exact ⟨ret_int (by decide), HB.out 4⟩


theorem rem_in {a : Int} {M : Nat} (_h0 : 0 ≤ a) (_h1 : a ≤ 31) (hM : M ≤ 4) : 0 ≤ a % 2 ^ M ∧ a % 2 ^ M ≤ 15 := by
  have h1 := two_pow_bd hM
  have h2 := Int.emod_nonneg a (show (2 : Int) ^ M ≠ 0 by omega)
  have h3 := Int.emod_lt_of_pos a (show (0 : Int) < 2 ^ M by omega)
  omega
set_option maxRecDepth 100000 in
set_option maxHeartbeats 1000000 in
theorem impl_send_c (w : World) (M : Nat) (hM1 : 1 ≤ M) (hM : M ≤ 4) (A : Option Addr) (n cap : Nat) (ms : List Int) (hl : ms.length = n) (hn : n ≤ 4) (hr : ∀ x ∈ ms, 0 ≤ x ∧ x ≤ 31) (hx : Sl w w.heap.size A (ms.map (Value.int .i64))) (s b : Int) (h0 : 0 ≤ s) (h1 : s ≤ 15) (hb0 : 0 ≤ b) (hb1 : b ≤ 1) :
    Calls Try.prog 58 #[.agg #[.int .i64 (M : Int), .slice A n cap], .int .i64 s, .int .i64 b] w fun e w' => ∃ v, e = .returned (.tuple #[v, .int .i64 ((2 * s + b) % 2 ^ M)]) ∧ Ow w' w.heap.size 4 v ((sentL ms (2 * s + b)).map Value.bool) ∧ Below w.heap.size w w' := by
  obtain ⟨a, ha⟩ : ∃ x, 2 * s + b = x := ⟨_, rfl⟩
  have ha0 : 0 ≤ a := by omega
  have ha1 : a ≤ 31 := by omega
  have hp2 := two_pow_bd hM
  have hrem := rem_in ha0 ha1 hM
  rw [ha]
  have HA := Lib.hid ha
  obtain ⟨P, hP⟩ : ∃ P : Int, 2 ^ M = P := ⟨_, rfl⟩
  rw [hP] at hp2 hrem ⊢
  have HP := Lib.hid hP
  have hP0 : P ≠ 0 := by omega
  have htm : a.tmod P = a % P := Int.tmod_eq_emod_of_nonneg ha0
  have hPz : (P == 0) = false := by simpa using hP0
  have hPd : decide (P = 0) = false := by simpa using hP0
  clear ha hP
  go_enter Try.func58, Try.ntmps58
  go_wp2
  rw [HA.out]
  obtain ⟨w1, ew⟩ : ∃ q : World, q = w.alloc (.cells #[.int .i64 (M : Int), .slice A n cap] 29) := ⟨_, rfl⟩
  have e1 : w.heap.size + 1 = w1.heap.size := by rw [ew]; simp
  rw [← ew, e1]
  have hB : Below w.heap.size w w1 := by rw [ew]; exact (Below.refl _ _).alloc (Nat.le_refl _) _
  have c0 : w1.cell? ⟨w.heap.size, 0, none⟩ = some (.int .i64 (M : Int)) := by rw [ew]; (first | (simp; done) | (simp (disch := (first | (simp; done) | (simp; omega))) [World.cell?_alloc_at]; done) | (simp (disch := (first | (simp; done) | (simp; omega))) [World.cell?_alloc_past]; done) | (simp (disch := (first | (simp; done) | (simp; omega))) [World.cell?_alloc_at, World.cell?_alloc_past]; done) | (simp (disch := (first | (simp; done) | (simp; omega))) [World.frozen?_alloc_at]; done) | (simp (disch := (first | (simp; done) | (simp; omega))) [World.frozen?_alloc_past]; done) | (simp (disch := (first | (simp; done) | (simp; omega))) [World.frozen?_alloc_at, World.frozen?_alloc_past]; done))
  have c1 : w1.cell? ⟨w.heap.size, 1, none⟩ = some (.slice A n cap) := by rw [ew]; (first | (simp; done) | (simp (disch := (first | (simp; done) | (simp; omega))) [World.cell?_alloc_at]; done) | (simp (disch := (first | (simp; done) | (simp; omega))) [World.cell?_alloc_past]; done) | (simp (disch := (first | (simp; done) | (simp; omega))) [World.cell?_alloc_at, World.cell?_alloc_past]; done) | (simp (disch := (first | (simp; done) | (simp; omega))) [World.frozen?_alloc_at]; done) | (simp (disch := (first | (simp; done) | (simp; omega))) [World.frozen?_alloc_past]; done) | (simp (disch := (first | (simp; done) | (simp; omega))) [World.frozen?_alloc_at, World.frozen?_alloc_past]; done))
  have hx1 := (hx.below hB).more hB.size
  clear ew hx
  go_loopw [9, 20] (fun v i wr => ∃ k : Nat, k ≤ n ∧ i = .int .i64 k ∧ Ow wr w1.heap.size 4 v ((sentL (ms.take k) a).map Value.bool) ∧ Below w1.heap.size w1 wr) (fun _ i _ => n - (intOf i).toNat)
  case atStart => exact ⟨0, Nat.zero_le _, rfl, own_empty _ _ _ (Nat.le_refl _), (Below.refl _ _).alloc (Nat.le_refl _) _⟩
  case round =>
    obtain ⟨k, hk, rfl, ho, hb⟩ := hrel
    by_cases hlt : k < n
    · obtain ⟨b1, off, rfl, hbb, hc1⟩ := (hx1.below hb).get k (by omega)
      have hm := hr (ms[k]'(by omega)) (List.getElem_mem _)
      have hz := hb.size
      have hst := sentL_snoc (ms := ms) (a := a) (k := k) (by omega)
      obtain ⟨x, hxx⟩ : ∃ x, ms[k]'(by omega) = x := ⟨_, rfl⟩
      rw [hxx] at hc1 hm hst
      have hand := and_bd ha0 ha1 hm.1 hm.2
      have hlen : ((sentL (ms.take k) a).map Value.bool).length + 1 ≤ 1099511627776 := by simp [sentL_len]; omega
      have HT := Lib.hid hst
      clear hx1 hst hxx hr c0 c1
      go_wp2_with (first
        | (go_at_call 83; refine (impl_isOdd_c _ _ hand.1 (by omega)).mono ?_; rintro e w' ⟨rfl, rfl⟩)
        | (at_builtin; refine app1 Try.underlying41 infoBool rfl (by decide) rfl _ _ rfl _ _ _ rfl (ho.alloc _) _ _ _ rfl (cell_new1 _ _ _) rfl hlen (by simp; omega) ?_; intro v' w1 ho1 hb1))
      go_roundw
      case rel =>
        refine ⟨k + 1, by omega, by go_num, ?_, (hb.alloc hz _).trans hb1⟩
        rw [← HT.out]
        exact ho1
      case measure => simp [intOf]; omega
    · have : k = n := by omega
      subst this
      rw [take_all hl] at ho
      have hz := hb.size
      have d0 := (hb.cell (p := ⟨w.heap.size, 0, none⟩) (by simp only []; omega)).trans c0
      have d1 := (hb.cell (p := ⟨w.heap.size, 1, none⟩) (by simp only []; omega)).trans c1
      have hst := fun W : World => impl_states_c W M hM1 hM A k cap
      rw [HP.out] at hst
      have HS := Lib.hid hst
      clear hst c0 c1 hx1
      go_wp2_with fail
      go_region_held3 (fun w' => w'.cell? ⟨w.heap.size, 0, none⟩ = some (.int .i64 (M : Int)) ∧ w'.cell? ⟨w.heap.size, 1, none⟩ = some (.slice A k cap))
        (first | exact ⟨d2, d3⟩ | exact ⟨d0, d1⟩)
        (first
          | (go_at_call 45; refine (HS.out wr.drew).mono ?_; rintro e w3 ⟨rfl, hb3⟩; have hb3 := below_undrew hb3; have d2 := (hb3.cell (p := ⟨w.heap.size, 0, none⟩) (by simp only []; omega)).trans d0; have d3 := (hb3.cell (p := ⟨w.heap.size, 1, none⟩) (by simp only []; omega)).trans d1))
      go_wp2
      go_ret2
      exact ⟨_, rfl, own_base (own_below ho hb3 (Nat.le_refl _)) hB.size, hB.trans ((hb.trans (hb3.mono hb.size)).mono hB.size)⟩


set_option maxRecDepth 100000 in
theorem impl_bitAt_c (w : World) (B : Nat) (A : Option Addr) (n cap : Nat) (bs : List Bool) (hl : bs.length = n) (hx : Sl w B A (bs.map Value.bool)) (k : Nat) :
    Calls Try.prog 59 #[.slice A n cap, .int .i64 (k : Int)] w fun e w' => e = .returned (.int .i64 (bitI (bs.getD k false))) ∧ w = w' := by
  by_cases hlt : k < n
  · obtain ⟨b, off, rfl, hbb, hc1⟩ := hx.get k (by omega)
    have hkb : k < bs.length := by omega
    have hg : bs.getD k false = bs[k]'hkb := by simp [List.getD, hkb]
    rw [hg]
    obtain ⟨v, hv⟩ : ∃ v, bs[k]'hkb = v := ⟨_, rfl⟩
    rw [hv] at hc1 ⊢
    clear hg hv hx
    cases v
    all_goals
      go_enter Try.func59, Try.ntmps59
      go_wp2
      go_ret
      exact ⟨rfl, rfl⟩
  · have hg : bs.getD k false = false := by simp [List.getD, List.getElem?_eq_none (show bs.length ≤ k by omega)]
    rw [hg]
    clear hg
    go_enter Try.func59, Try.ntmps59
    go_wp2
    go_ret
    exact ⟨rfl, rfl⟩



theorem so_no {m : Int} {ms : List Int} {bs : List Bool} (h : sendBitsOk m ms bs = false) : sendBitsL m ms bs = [] := by unfold sendBitsL; rw [h]; rfl
theorem so_yes {M : Nat} {ms : List Int} {bs : List Bool} {n : Nat} (h : sendBitsOk (M : Int) ms bs = true) (hl : bs.length = n) : sendBitsL (M : Int) ms bs = outR M ms bs (n + M) := by unfold sendBitsL; rw [h, hl, if_pos rfl, Int.toNat_natCast]

set_option maxRecDepth 100000 in
set_option maxHeartbeats 2000000 in
theorem impl_SendBits_c (w : World) (m : Int) (A : Option Addr) (n cap : Nat) (ms : List Int) (hl : ms.length = n) (hn : n ≤ 1048576) (hx0 : Sl w w.heap.size A (ms.map (Value.int .i64)))
    (A2 : Option Addr) (n2 cap2 : Nat) (bs : List Bool) (hl2 : bs.length = n2) (hn2 : n2 ≤ 1048576) (hy0 : Sl w w.heap.size A2 (bs.map Value.bool)) :
    Calls Try.prog 19 #[.agg #[.int .i64 m, .slice A n cap], .slice A2 n2 cap2] w fun e w' => ∃ v, e = .returned (.tuple #[v, .bool (sendBitsOk m ms bs)]) ∧ Ow w' w.heap.size 4 v ((sendBitsL m ms bs).map Value.bool) ∧ Below w.heap.size w w' := by
  obtain ⟨w1, ew⟩ : ∃ q : World, q = w.alloc (.cells #[.int .i64 m, .slice A n cap] 29) := ⟨_, rfl⟩
  have hB : Below w.heap.size w w1 := by rw [ew]; exact (Below.refl _ _).alloc (Nat.le_refl _) _
  have c0 : w1.cell? ⟨w.heap.size, 0, none⟩ = some (.int .i64 m) := by rw [ew]; (first | (simp; done) | (simp (disch := (first | (simp; done) | (simp; omega))) [World.cell?_alloc_at]; done) | (simp (disch := (first | (simp; done) | (simp; omega))) [World.cell?_alloc_past]; done) | (simp (disch := (first | (simp; done) | (simp; omega))) [World.cell?_alloc_at, World.cell?_alloc_past]; done) | (simp (disch := (first | (simp; done) | (simp; omega))) [World.frozen?_alloc_at]; done) | (simp (disch := (first | (simp; done) | (simp; omega))) [World.frozen?_alloc_past]; done) | (simp (disch := (first | (simp; done) | (simp; omega))) [World.frozen?_alloc_at, World.frozen?_alloc_past]; done))
  have c1 : w1.cell? ⟨w.heap.size, 1, none⟩ = some (.slice A n cap) := by rw [ew]; (first | (simp; done) | (simp (disch := (first | (simp; done) | (simp; omega))) [World.cell?_alloc_at]; done) | (simp (disch := (first | (simp; done) | (simp; omega))) [World.cell?_alloc_past]; done) | (simp (disch := (first | (simp; done) | (simp; omega))) [World.cell?_alloc_at, World.cell?_alloc_past]; done) | (simp (disch := (first | (simp; done) | (simp; omega))) [World.frozen?_alloc_at]; done) | (simp (disch := (first | (simp; done) | (simp; omega))) [World.frozen?_alloc_past]; done) | (simp (disch := (first | (simp; done) | (simp; omega))) [World.frozen?_alloc_at, World.frozen?_alloc_past]; done))
  have hz : w1.heap.size = w.heap.size + 1 := by rw [ew]; simp
  have hx := (hx0.below hB).more hB.size
  have hy := (hy0.below hB).more hB.size
  clear hx0 hy0
  cases hv : validCoderB m ms
  · have e1 : sendBitsOk m ms bs = false := by unfold sendBitsOk; rw [hv]; rfl
    rw [so_no e1, e1]
    have HV := Lib.hid hv
    clear hv e1
    go_enter Try.func19, Try.ntmps19
    go_wp2_with fail
    rw [← ew]
    clear ew
    go_wp2_with (go_at_call 24; refine (impl_ValidCoder_c w1 m A n cap ms hl hn hx).mono ?_; rintro e w2 ⟨rfl, hb2⟩; rw [HV.out])
    go_ret2
    exact ⟨_, rfl, World.ownsRow_nil _ _ _ _, hB.trans (hb2.mono hB.size)⟩
  · by_cases h40 : n2 ≤ 40
    · have e1 : sendBitsOk m ms bs = true := by unfold sendBitsOk; rw [hv, hl2]; simpa using h40
      have hf := vc_facts hv
      obtain ⟨M, rfl⟩ : ∃ M : Nat, m = (M : Int) := ⟨m.toNat, by omega⟩
      rw [so_yes e1 hl2, e1]
      have HV := Lib.hid hv
      clear hv e1
      go_enter Try.func19, Try.ntmps19
      go_wp2_with fail
      rw [← ew]
      clear ew
      refine (impl_ValidCoder_c w1 (M : Int) A n cap ms hl hn hx).mono ?_
      rintro e w2 ⟨rfl, hb2⟩
      rw [HV.out]
      have hz2 := hb2.size
      have d0 := (hb2.cell (p := ⟨w.heap.size, 0, none⟩) (by simp only []; omega)).trans c0
      have d1 := (hb2.cell (p := ⟨w.heap.size, 1, none⟩) (by simp only []; omega)).trans c1
      have hB2 := hB.trans (hb2.mono hB.size)
      have hx2 := (hx.below hb2).more hz2
      have hy2 := (hy.below hb2).more hz2
      have hlt0 : w.heap.size < w2.heap.size := by omega
      clear c0 c1 hx hy
      go_wp2
      go_loopw [6, 7, 24] (fun v s i wr => ∃ k : Nat, k ≤ n2 + M ∧ i = .int .i64 k ∧ s = .int .i64 (stI M bs k) ∧ Ow wr w2.heap.size 4 v ((outR M ms bs k).map Value.bool) ∧ Below w2.heap.size w2 wr) (fun _ _ i _ => n2 + M - (intOf i).toNat)
      case atStart => exact ⟨0, Nat.zero_le _, rfl, rfl, own_empty _ _ _ (Nat.le_refl _), (Below.refl _ _).alloc (Nat.le_refl _) _⟩
      case round =>
        obtain ⟨k, hk, rfl, rfl, ho, hb⟩ := hrel
        have hst := stI_bd (M := M) (by omega) bs k
        have hz := hb.size
        have f0 := (hb.cell (p := ⟨w.heap.size, 0, none⟩) (by simp only []; omega)).trans d0
        have f1 := (hb.cell (p := ⟨w.heap.size, 1, none⟩) (by simp only []; omega)).trans d1
        have hx1 := (hx2.below hb).more hz
        have hy1 := (hy2.below hb).more hz
        have hlen := outR_bd (M := M) (ms := ms) (bs := bs) (k := k) (by omega) (by omega)
        have ho1 : outR M ms bs (k + 1) = outR M ms bs k ++ sentL ms (2 * stI M bs k + bitI (bs.getD k false)) := rfl
        have hs1 : stI M bs (k + 1) = (2 * stI M bs k + bitI (bs.getD k false)) % 2 ^ M := rfl
        have HO1 := Lib.hid ho1
        have HS1 := Lib.hid hs1
        obtain ⟨s, hs⟩ : ∃ s, stI M bs k = s := ⟨_, rfl⟩
        rw [hs] at hst HO1 HS1 ⊢
        clear ho1 hs1 hs hx2 hy2 d0 d1
        by_cases hlt : k < n2 + M
        · have hbi := bitI_bd (bs.getD k false)
          have hat := impl_bitAt_c wr.drew wr.heap.size A2 n2 cap2 bs hl2 hy1 k
          obtain ⟨z, hzz⟩ : ∃ z, bitI (bs.getD k false) = z := ⟨_, rfl⟩
          rw [hzz] at hbi HO1 HS1 hat
          have HAT := Lib.hid hat
          clear hzz hat hy1
          go_wp2_with fail
          go_region_held3 (fun w' => w'.cell? ⟨w.heap.size, 0, none⟩ = some (.int .i64 (M : Int)) ∧ w'.cell? ⟨w.heap.size, 1, none⟩ = some (.slice A n cap))
            (first | exact ⟨g0, g1⟩ | exact ⟨f0, f1⟩)
            (first
              | (go_at_call 58; refine (impl_send_c wr.drew M (by omega) (by omega) A n cap ms hl (by omega) hf.2.2.2.2 hx1 s z hst.1 hst.2 hbi.1 hbi.2).mono ?_; rintro e w3 ⟨u, rfl, ho3, hb3⟩; have hb3 := below_undrew hb3; have g0 := (hb3.cell (p := ⟨w.heap.size, 0, none⟩) (by simp only []; omega)).trans f0; have g1 := (hb3.cell (p := ⟨w.heap.size, 1, none⟩) (by simp only []; omega)).trans f1)
              | (go_at_call 59; refine HAT.out.mono ?_; rintro e w' ⟨rfl, rfl⟩))
          obtain ⟨S, q, rfl, hp⟩ := ho3.opn
          have hoo := own_below ho hb3 (Nat.le_refl _)
          have hz3 := hb3.size
          have hsl := sl_of_own hp
          have hsn := sentL_len ms (2 * s + z)
          clear ho3 hx1 f0 f1
          go_wp2_with (at_builtin; refine appS Try.underlying41 infoBool rfl (by decide) rfl _ _ rfl _ _ _ rfl hoo _ _ _ _ _ rfl (by simp [sentL_len, hl]) hsl one_bool (by simp; omega) (by omega) ?_; intro v' w4 ho4 hb4)
          go_roundw
          case rel =>
            refine ⟨k + 1, by omega, by go_num, by rw [HS1.out], ?_, hb.trans ((hb3.mono hz).trans hb4)⟩
            rw [HO1.out, List.map_append]
            exact ho4
          case measure => simp [intOf]; omega
        · have : k = n2 + M := by omega
          subst this
          go_wp2
          go_ret2
          exact ⟨_, rfl, own_base ho hB2.size, hB2.trans (hb.mono hB2.size)⟩
    · have e1 : sendBitsOk m ms bs = false := by unfold sendBitsOk; rw [hv, hl2]; simpa using h40
      rw [so_no e1, e1]
      have HV := Lib.hid hv
      clear hv e1
      go_enter Try.func19, Try.ntmps19
      go_wp2_with fail
      rw [← ew]
      clear ew
      go_wp2_with (go_at_call 24; refine (impl_ValidCoder_c w1 m A n cap ms hl hn hx).mono ?_; rintro e w2 ⟨rfl, hb2⟩; rw [HV.out])
      go_ret2
      exact ⟨_, rfl, World.ownsRow_nil _ _ _ _, hB.trans (hb2.mono hB.size)⟩

theorem cell_apart {w w' : World} {u : Value} {p : Addr} (hg : w.grownBy w' u.ownBlock) {c d : Nat} (hu : In u c d) (hp : p.block < w.heap.size) (hs : p.block < c ∨ d ≤ p.block) : w'.cell? p = w.cell? p := by
  have h1 := hg.block p.block hp (fun he => by
    have h2 := hu p.block he.symm
    omega)
  unfold World.cell?
  rw [h1]

theorem grown_alloc {w w' : World} {o : Obj} {row : Option Nat} (h : (w.alloc o).grownBy w' row) : w.grownBy w' row := by
  have hb := (Below.refl w.heap.size w).alloc (Nat.le_refl _) o
  exact ⟨h.os.trans hb.os, h.tape.trans hb.tape, h.output.trans hb.output, Nat.le_trans hb.size h.size, fun i hi hne => (h.block i (Nat.lt_of_lt_of_le hi hb.size) hne).trans (hb.block i hi)⟩
set_option maxRecDepth 100000 in
theorem markCoder_c (w : World) (base : Nat) (m : Int) (A : Option Addr) (n cap : Nat) (xs : List Value) (hn : n ≤ 1099511627776) (k : Int) (h0 : 0 ≤ k) (hk : k ≤ 1099511627776) (ho : w.ownsRow base 2 1 (.slice A n cap) n xs) :
    Calls Try.prog 12 #[.agg #[.int .i64 m, .slice A n cap], .int .i64 k] w fun e w' => e = .returned (.int .i64 (k + n)) ∧ w'.ownsRow base 2 1 (.slice A n cap) n (marks (fun q => .int .i64 q) k n) ∧ w.grownBy w' (Value.slice A n cap).ownBlock := by
  have ho1 := own_below ho ((Below.refl w.heap.size w).alloc (Nat.le_refl _) (Obj.cells #[.int .i64 m, .slice A n cap] 29)) (Nat.le_refl _)
  go_enter Try.func12, Try.ntmps12
  go_wp2_with (go_at_call 54; refine (markInt64S_c _ base A n cap xs hn k h0 hk ho1).mono ?_; rintro e w' ⟨rfl, ho2, hg⟩)
  go_ret
  exact ⟨rfl, ho2, grown_alloc hg⟩

end Go.Proofs.Ytopeidmafalklaa
