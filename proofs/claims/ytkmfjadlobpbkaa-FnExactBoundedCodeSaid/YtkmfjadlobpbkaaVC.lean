/-
  Contracts: valid codes of words' lengths (Kraft's sum), of the program and of the reference.
  Conditions: lengths at most 1099511627776.
-/
import Derived.Test.YtkmfjadlobpbkaaCB
namespace Go.Proofs.Ytkmfjadlobpbkaa
open Go.RowKit

/-- Kraft's sum, over 2^32 -/
def kraftN (xs : List Int) : Nat → Nat | 0 => 0 | k + 1 => kraftN xs k + 2 ^ (32 - xs.getD k 0).toNat
def codeB (xs : List Int) : Bool := ((decide (1 ≤ xs.length) && decide (xs.length ≤ 16)) && xs.all fun x => inB x 1 32) && decide (kraftN xs xs.length ≤ 4294967296)
theorem kraft_bd {xs : List Int} (h : ∀ x ∈ xs, 1 ≤ x ∧ x ≤ 32) (k : Nat) (hk : k ≤ xs.length) : kraftN xs k ≤ k * 2147483648 := by
  induction k with
  | zero => simp [kraftN]
  | succ k ih =>
    have h1 := ih (by omega)
    have hx : xs.getD k 0 ∈ xs := by simp only [List.getD, List.getElem?_eq_getElem (show k < xs.length by omega), Option.getD_some]; exact List.getElem_mem _
    have h2 := h _ hx
    have h3 : 2 ^ (32 - xs.getD k 0).toNat ≤ 2 ^ 31 := Nat.pow_le_pow_right (by decide) (by omega)
    rw [kraftN, Nat.succ_mul]
    omega
theorem all_in {xs : List Int} {lo hi : Int} (h : (xs.all fun x => inB x lo hi) = true) : ∀ x ∈ xs, lo ≤ x ∧ x ≤ hi := fun x hx => inB_true.1 (List.all_eq_true.1 h x hx)
theorem pow31 : ∀ e < 32, IntKind.i64.wrap (2 ^ e) = ((2 ^ e : Nat) : Int) ∧ wrap64 (2 ^ e) = ((2 ^ e : Nat) : Int) ∧ (2 ^ e : Nat) ≤ 2147483648 := by decide +kernel

theorem kraft_fin {K K2 q : Nat} {z : Int} (p2 : z = (q : Int)) (hst : K2 = K + q) (h1 : K ≤ 34359738368) (h2 : q ≤ 2147483648) : wrap64 ((K : Int) + z) = (K2 : Int) := by
  subst p2 hst
  rw [IntWalk.wrap64_in _ (by omega)]
  rfl

set_option maxRecDepth 100000 in
theorem impl_kraft_c (w : World) (A : Option Addr) (n cap : Nat) (xs : List Int) (hl : xs.length = n) (hn : n ≤ 16) (hx : Sl w w.heap.size A (xs.map (Value.int .i64))) (hall : ∀ x ∈ xs, 1 ≤ x ∧ x ≤ 32) :
    Calls Try.prog 38 #[.agg #[.slice A n cap]] w fun e w' => e = .returned (.int .i64 (kraftN xs n : Int)) ∧ Below w.heap.size w w' := by
  have hB0 : Below w.heap.size w (w.alloc (.cells #[.slice A n cap] 24)) := (Below.refl _ _).alloc (Nat.le_refl _) _
  obtain ⟨w1, ew⟩ : ∃ q : World, q = w.alloc (.cells #[.slice A n cap] 24) := ⟨_, rfl⟩
  have c0 : w1.cell? ⟨w.heap.size, 0, none⟩ = some (.slice A n cap) := by rw [ew]; (first | (simp; done) | (simp (disch := (first | (simp; done) | (simp; omega))) [World.cell?_alloc_at]; done) | (simp (disch := (first | (simp; done) | (simp; omega))) [World.cell?_alloc_past]; done) | (simp (disch := (first | (simp; done) | (simp; omega))) [World.cell?_alloc_at, World.cell?_alloc_past]; done) | (simp (disch := (first | (simp; done) | (simp; omega))) [World.frozen?_alloc_at]; done) | (simp (disch := (first | (simp; done) | (simp; omega))) [World.frozen?_alloc_past]; done) | (simp (disch := (first | (simp; done) | (simp; omega))) [World.frozen?_alloc_at, World.frozen?_alloc_past]; done))
  rw [← ew] at hB0
  have hx1 := hx.below hB0
  have HA := Lib.hid hall
  have HB := Lib.hid (fun k hk => kraft_bd hall k hk)
  clear hall hx
  go_enter Try.func38, Try.ntmps38
  go_wp2_with fail
  rw [← ew]
  clear ew
  go_wp2
  go_loop [3, 9] (fun o i => ∃ k : Nat, k ≤ n ∧ o = .int .i64 (kraftN xs k : Int) ∧ i = .int .i64 k) (fun _ i => n - (intOf i).toNat)
  case atStart => exact ⟨0, Nat.zero_le _, rfl, rfl⟩
  case round =>
    obtain ⟨k, hk, rfl, rfl⟩ := hrel
    by_cases hlt : k < n
    · obtain ⟨b, off, rfl, hbb, hc1⟩ := hx1.get k (by omega)
      have hg : xs.getD k 0 = xs[k]'(by omega) := by simp [List.getD, show k < xs.length by omega]
      have hst : kraftN xs (k + 1) = kraftN xs k + 2 ^ (32 - xs.getD k 0).toNat := rfl
      have hb := HB.out k (by omega)
      have hxk := HA.out _ (List.getElem_mem (show k < xs.length by omega))
      obtain ⟨y, hy⟩ : ∃ y, xs[k]'(by omega) = y := ⟨_, rfl⟩
      rw [hg, hy] at hst
      rw [hy] at hc1 hxk
      obtain ⟨e, rfl⟩ : ∃ e : Nat, y = 32 - (e : Int) := ⟨(32 - y).toNat, by omega⟩
      have e2 : (32 - (32 - (e : Int))).toNat = e := by omega
      rw [e2] at hst
      obtain ⟨p1, p2, p3⟩ := pow31 e (by omega)
      obtain ⟨q, hq⟩ : ∃ q, (2 ^ e : Nat) = q := ⟨_, rfl⟩
      rw [hq] at hst p2 p3
      have hkb : kraftN xs k ≤ 34359738368 := Nat.le_trans hb (by omega)
      have hfin : Value.int .i64 (wrap64 ((kraftN xs k : Int) + wrap64 (2 ^ e))) = Value.int .i64 (kraftN xs (k + 1) : Int) := by
        exact congrArg (Value.int .i64) (kraft_fin p2 hst hkb p3)
      have HF := Lib.hid hfin
      clear hst p1 p2 p3 hg hy hq hfin hb hkb
      go_wp2
      go_round
      case rel => exact ⟨k + 1, hlt, HF.out, by go_num⟩
      case measure => simp [intOf]; omega
    · have : k = n := by omega
      subst this
      go_wp2
      go_ret
      exact ⟨rfl, hB0⟩


set_option maxRecDepth 100000 in
set_option maxHeartbeats 1000000 in
theorem impl_ValidCode_c (w : World) (A : Option Addr) (n cap : Nat) (xs : List Int) (hl : xs.length = n) (hn : n ≤ 1048576) (hx : Sl w w.heap.size A (xs.map (Value.int .i64))) :
    Calls Try.prog 32 #[.agg #[.slice A n cap]] w fun e w' => e = .returned (.bool (codeB xs)) ∧ Below w.heap.size w w' := by
  have hB0 : Below w.heap.size w (w.alloc (.cells #[.slice A n cap] 24)) := (Below.refl _ _).alloc (Nat.le_refl _) _
  obtain ⟨w1, ew⟩ : ∃ q : World, q = w.alloc (.cells #[.slice A n cap] 24) := ⟨_, rfl⟩
  have c0 : w1.cell? ⟨w.heap.size, 0, none⟩ = some (.slice A n cap) := by rw [ew]; (first | (simp; done) | (simp (disch := (first | (simp; done) | (simp; omega))) [World.cell?_alloc_at]; done) | (simp (disch := (first | (simp; done) | (simp; omega))) [World.cell?_alloc_past]; done) | (simp (disch := (first | (simp; done) | (simp; omega))) [World.cell?_alloc_at, World.cell?_alloc_past]; done) | (simp (disch := (first | (simp; done) | (simp; omega))) [World.frozen?_alloc_at]; done) | (simp (disch := (first | (simp; done) | (simp; omega))) [World.frozen?_alloc_past]; done) | (simp (disch := (first | (simp; done) | (simp; omega))) [World.frozen?_alloc_at, World.frozen?_alloc_past]; done))
  have z1 : w.heap.size < w1.heap.size := by rw [ew]; simp
  rw [← ew] at hB0
  have EW := Lib.hid ew
  have hx1 := hx.below hB0
  clear ew hx
  by_cases h1 : 1 ≤ n
  · by_cases h2 : n ≤ 16
    · cases ha : xs.all fun x => inB x 1 32
      · have e1 : codeB xs = false := by unfold codeB; rw [ha]; simp
        have HA := Lib.hid ha
        rw [e1]
        clear ha e1
        go_enter Try.func32, Try.ntmps32
        go_wp2_with fail
        rw [← EW.out]
        refine (impl_areWithin_c w1 w.heap.size A n cap xs hl (by omega) hx1 1 32).mono ?_
        rintro e w2 ⟨rfl, m, rfl⟩
        rw [HA.out]
        go_wp2
        go_ret
        exact ⟨rfl, below_drewN hB0 m⟩
      · have e1 : codeB xs = decide (kraftN xs n ≤ 4294967296) := by unfold codeB; rw [ha, hl]; simp [h1, h2]
        have hall := all_in ha
        have HA := Lib.hid ha
        have HL := Lib.hid hall
        rw [e1]
        clear ha e1 hall
        go_enter Try.func32, Try.ntmps32
        go_wp2_with fail
        rw [← EW.out]
        refine (impl_areWithin_c w1 w.heap.size A n cap xs hl (by omega) hx1 1 32).mono ?_
        rintro e w2 ⟨rfl, m, rfl⟩
        rw [HA.out]
        go_wp2_with fail
        refine (impl_kraft_c (w1.drewN m) A n cap xs hl h2 ((hx1.more hB0.size).drewN m) HL.out).mono ?_
        rintro e w3 ⟨rfl, hb3⟩
        go_wp2
        go_ret
        exact ⟨ret_bool (by simp; omega), (below_drewN hB0 m).trans (hb3.mono hB0.size)⟩
    · have e1 : codeB xs = false := by unfold codeB; rw [hl]; simp [h2]
      rw [e1]
      go_enter Try.func32, Try.ntmps32
      go_wp2_with fail
      rw [← EW.out]
      go_wp2
      go_ret
      exact ⟨rfl, hB0⟩
  · have e1 : codeB xs = false := by unfold codeB; rw [hl]; simp [h1]
    rw [e1]
    go_enter Try.func32, Try.ntmps32
    go_wp2_with fail
    rw [← EW.out]
    go_wp2
    go_ret
    exact ⟨rfl, hB0⟩


set_option maxRecDepth 100000 in
theorem spec_l04Kraft_c (w : World) (b0 o0 B : Nat) (A : Option Addr) (n cap : Nat) (xs : List Int) (h0 : w.cell? ⟨b0, o0, none⟩ = some (.slice A n cap)) (hl : xs.length = n) (hn : n ≤ 16) (hx1 : Sl w B A (xs.map (Value.int .i64))) (hall : ∀ x ∈ xs, 1 ≤ x ∧ x ≤ 32) :
    Calls Try.prog 33 #[.pointer (some ⟨b0, o0, none⟩)] w fun e w' => e = .returned (.int .i64 (kraftN xs n : Int)) ∧ w = w' := by
  have HA := Lib.hid hall
  have HB := Lib.hid (fun k hk => kraft_bd hall k hk)
  clear hall
  go_enter Try.func33, Try.ntmps33
  go_wp2
  go_loop [3, 4] (fun o i => ∃ k : Nat, k ≤ n ∧ o = .int .i64 (kraftN xs k : Int) ∧ i = .int .i64 k) (fun _ i => n - (intOf i).toNat)
  case atStart => exact ⟨0, Nat.zero_le _, rfl, rfl⟩
  case round =>
    obtain ⟨k, hk, rfl, rfl⟩ := hrel
    by_cases hlt : k < n
    · obtain ⟨b, off, rfl, hbb, hc1⟩ := hx1.get k (by omega)
      have hg : xs.getD k 0 = xs[k]'(by omega) := by simp [List.getD, show k < xs.length by omega]
      have hst : kraftN xs (k + 1) = kraftN xs k + 2 ^ (32 - xs.getD k 0).toNat := rfl
      have hb := HB.out k (by omega)
      have hxk := HA.out _ (List.getElem_mem (show k < xs.length by omega))
      obtain ⟨y, hy⟩ : ∃ y, xs[k]'(by omega) = y := ⟨_, rfl⟩
      rw [hg, hy] at hst
      rw [hy] at hc1 hxk
      obtain ⟨e, rfl⟩ : ∃ e : Nat, y = 32 - (e : Int) := ⟨(32 - y).toNat, by omega⟩
      have e2 : (32 - (32 - (e : Int))).toNat = e := by omega
      rw [e2] at hst
      have e3 : (32 - (32 - (e : Int))) = (e : Int) := by omega
      have hcv : IntKind.u64.wrap (e : Int) = e := IntWalk.u64_in _ (by omega)
      obtain ⟨p1, p2, p3⟩ := pow31 e (by omega)
      obtain ⟨q, hq⟩ : ∃ q, (2 ^ e : Nat) = q := ⟨_, rfl⟩
      rw [hq] at hst p2 p3
      have hkb : kraftN xs k ≤ 34359738368 := Nat.le_trans hb (by omega)
      have hfin : Value.int .i64 (wrap64 ((kraftN xs k : Int) + wrap64 (2 ^ e))) = Value.int .i64 (kraftN xs (k + 1) : Int) := by
        exact congrArg (Value.int .i64) (kraft_fin p2 hst hkb p3)
      have HF := Lib.hid hfin
      clear hst p1 p2 p3 hg hy hq hfin hb hkb
      go_wp2
      go_round
      case rel => exact ⟨k + 1, hlt, HF.out, by go_num⟩
      case measure => simp [intOf]; omega
    · have : k = n := by omega
      subst this
      go_wp2
      go_ret
      exact ⟨rfl, rfl⟩


theorem codeB_at {xs : List Int} {k : Nat} (hk : k < xs.length) (h : inB (xs[k]'hk) 1 32 = false) : codeB xs = false := by
  unfold codeB
  rw [all_not (fun x => inB x 1 32) xs k hk h]
  simp
set_option maxRecDepth 100000 in
set_option maxHeartbeats 1000000 in
theorem spec_l04Is_c (w : World) (b0 o0 B : Nat) (A : Option Addr) (n cap : Nat) (xs : List Int) (h0 : w.cell? ⟨b0, o0, none⟩ = some (.slice A n cap)) (hl : xs.length = n) (hn : n ≤ 1048576) (hx : Sl w B A (xs.map (Value.int .i64))) :
    Calls Try.prog 27 #[.pointer (some ⟨b0, o0, none⟩)] w fun e w' => e = .returned (.bool (codeB xs)) ∧ w = w' := by
  by_cases h1 : 1 ≤ n
  · by_cases h2 : n ≤ 16
    · go_enter Try.func27, Try.ntmps27
      go_wp2
      go_loop [3] (fun i => ∃ k : Nat, k ≤ n ∧ i = .int .i64 k ∧ (xs.take k).all (fun x => inB x 1 32) = true) (fun i => n - (intOf i).toNat)
      case atStart => exact ⟨0, Nat.zero_le _, rfl, rfl⟩
      case round =>
        obtain ⟨k, hk, rfl, hp⟩ := hrel
        have HP := Lib.hid hp
        clear hp
        by_cases hlt : k < n
        · obtain ⟨b, off, rfl, hbb, hc1⟩ := hx.get k (by omega)
          clear hx
          cases hf : inB (xs[k]'(by omega)) 1 32
          · have HF := Lib.hid hf
            clear hf
            go_wp2_with (go_at_call 13; refine (spec_l00In_c _ _ _ _).mono ?_; rintro e w' ⟨rfl, rfl⟩; rw [HF.out])
            go_ret
            exact ⟨ret_bool (codeB_at (by omega) HF.out).symm, rfl⟩
          · have HF := Lib.hid hf
            clear hf
            go_wp2_with (go_at_call 13; refine (spec_l00In_c _ _ _ _).mono ?_; rintro e w' ⟨rfl, rfl⟩; rw [HF.out])
            go_round
            case rel => exact ⟨k+1, by omega, by go_num, all_snoc (fun x => inB x 1 32) xs k (by omega) HP.out HF.out⟩
            case measure => simp [intOf]; omega
        · have : k = n := by omega
          subst this
          have hall : (xs.all fun x => inB x 1 32) = true := by rw [take_all hl] at HP; exact HP.out
          have e1 : codeB xs = decide (kraftN xs k ≤ 4294967296) := by unfold codeB; rw [hall, hl]; simp [h1, h2]
          have HL := Lib.hid (all_in hall)
          have HE := Lib.hid e1
          clear hall HP e1
          go_wp2_with (go_at_call 33; refine (spec_l04Kraft_c w b0 o0 B A k cap xs h0 hl h2 hx HL.out).mono ?_; rintro e w' ⟨rfl, rfl⟩)
          go_ret
          exact ⟨ret_bool (by rw [HE.out]; simp; omega), rfl⟩
    · have e1 : codeB xs = false := by unfold codeB; rw [hl]; simp [h2]
      rw [e1]
      go_enter Try.func27, Try.ntmps27
      go_wp2
      go_ret
      exact ⟨rfl, rfl⟩
  · have e1 : codeB xs = false := by unfold codeB; rw [hl]; simp [h1]
    rw [e1]
    go_enter Try.func27, Try.ntmps27
    go_wp2
    go_ret
    exact ⟨rfl, rfl⟩

end Go.Proofs.Ytkmfjadlobpbkaa
