/-
  Contracts: the program's PolarBest.
  Conditions: none.
-/
import Derived.Test.YtlcdcicdlfakgaaPL
import Derived.Test.YtlcdcicdlfakgaaKC
import Derived.Test.YtlcdcicdlfakgaaKE
import Derived.Test.YtlcdcicdlfakgaaSK
namespace Go.Proofs.Ytlcdcicdlfakgaa
open Go.RowKit

def pbOk (p : Int) (x : Nat) (c : Int) : Bool := lossOk p x && inB c 0 ((2 ^ p.toNat : Nat) : Int)
def pbL (p : Int) (x : Nat) (c : Int) : List Int := if pbOk p x c then (bestOf (keyL (lossIt x p.toNat)) (2 ^ p.toNat) c.toNat).map fun i => ((i : Nat) : Int) else []
theorem pbL_len (p : Int) (x : Nat) (c : Int) : (pbL p x c).length ≤ 32 := by
  unfold pbL
  split
  · rename_i h
    unfold pbOk lossOk at h
    rw [Bool.and_eq_true, Bool.and_eq_true, inB_true] at h
    rw [List.length_map]
    unfold bestOf
    refine Nat.le_trans (List.length_filter_le _ _) ?_
    rw [List.length_range]
    have : p.toNat ≤ 5 := by omega
    exact Nat.le_trans (Nat.pow_le_pow_right (by omega) this) (by decide)
  · simp
theorem pow_n {P : Nat} (h : P ≤ 5) : ∃ N : Nat, 1 ≤ N ∧ N ≤ 32 ∧ 2 ^ P = N ∧ wrap64 (2 ^ P) = (N : Int) ∧ IntKind.i64.wrap (2 ^ P) = (N : Int) := by
  have h6 : P = 0 ∨ P = 1 ∨ P = 2 ∨ P = 3 ∨ P = 4 ∨ P = 5 := by omega
  rcases h6 with rfl | rfl | rfl | rfl | rfl | rfl <;> exact ⟨_, by decide, by decide, rfl, by decide +kernel, by decide +kernel⟩
theorem loss_fin {x : Nat} {P : Nat} (h : shareB x = true) (hP : P ≤ 5) : ∀ z ∈ lossIt x P, z % 2147483648 < 2139095040 := fun z hz =>
  low_fin32 (by have := lv_bd P (by omega); omega) (lossIt_low (share_low h) P (by omega) z hz)


theorem Sort_row (w : World) (base g n cap k : Nat) (q : Nat → Nat) (hn : n ≤ 1048576) (hk : k ≤ n) (hn1 : 1 ≤ n) (ho : RowS w base g n cap q) :
    Calls Try.prog 38 #[.slice (some ⟨g, 0, none⟩) k cap] w fun e w' => e = .returned (.tuple #[]) ∧ w'.ownsRow base 2 1 (.slice (some ⟨g, 0, none⟩) k cap) k ((sortL ((List.range k).map fun i => ((q i : Nat) : Int))).map (Value.int .i64)) ∧ w.grownBy w' (some g) := by
  rcases ho.2 with ⟨h0, _⟩ | ⟨g', cap', cur, hv, hbg, hgb, h1, h2, h3, h4⟩
  · cases h0
  · injection hv with hv1 hv2 hv3
    injection hv1 with hv1
    injection hv1 with hv1
    subst hv1
    subst hv3
    have hlen : ((List.range k).map fun i => ((q i : Nat) : Int)).length = k := by simp
    obtain ⟨l, hl⟩ : ∃ l, ((List.range k).map fun i => ((q i : Nat) : Int)) = l := ⟨_, rfl⟩
    have h5 : cur.toList.take l.length = l.map (Value.int .i64) := by
      rw [← hl, hlen]
      have := congrArg (List.take k) h4
      rw [List.take_take, Nat.mul_one, Nat.min_eq_left hk] at this
      rw [this]
      unfold rowV
      rw [← List.map_take, List.take_range, Nat.min_eq_left hk, List.map_map]
      rfl
    rw [hl] at hlen ⊢
    subst hlen
    refine (Try.slices_Sort_int g 0 cap l w (holds_of_blockI hgb h5) (Array.getElem?_eq_some_iff.1 hgb).1 (by omega)).mono ?_
    rintro e w' ⟨rfl, q, os, rfl⟩
    exact ⟨rfl, ownsRow_sortedI (ts := sortL l) (sortL_len l) hbg hgb (by omega) h2 h3, grownBy_sortedI _⟩

theorem RowS.cap {w : World} {base g n cap : Nat} {q : Nat → Nat} (h : RowS w base g n cap q) : n ≤ cap ∧ cap ≤ 9223372036854775807 := by
  rcases h.2 with ⟨h0, _⟩ | ⟨g', cap', cur, hv, hbg, hgb, h1, h2, h3, h4⟩
  · cases h0
  · injection hv with hv1 hv2 hv3
    subst hv3
    exact ⟨h1, by unfold maxLen at h2; omega⟩


set_option maxRecDepth 100000 in
set_option maxHeartbeats 2000000 in
theorem impl_PolarBest_c (w : World) (p : Int) (x : Nat) (c : Int) : Calls Try.prog 11 #[.int .i64 p, .float .f32 x, .int .i64 c] w fun e w' => ∃ v, e = .returned (.tuple #[v, .bool (pbOk p x c)]) ∧ Ow w' w.heap.size 2 v ((pbL p x c).map (Value.int .i64)) ∧ Below w.heap.size w w' := by
  cases hok : lossOk p x
  · have e1 : pbOk p x c = false := by unfold pbOk; rw [hok]; rfl
    have e2 : pbL p x c = [] := by unfold pbL; rw [e1]; rfl
    rw [e1, e2]
    have HO := Lib.hid hok
    clear e1 e2 hok
    go_enter Try.func11, Try.ntmps11
    go_wp2_with (go_at_call 10; refine (impl_PolarLosses_c _ p x).mono ?_; rintro e w1 ⟨v, rfl, ho, hb⟩; rw [HO.out]; obtain ⟨A, cap, rfl, _, hS⟩ := ho.sl)
    go_ret2
    exact ⟨_, rfl, World.ownsRow_nil _ _ _ _, hb.alloc hb.size _⟩
  · have hq := hok
    unfold lossOk at hq
    rw [Bool.and_eq_true, inB_true] at hq
    obtain ⟨P, rfl⟩ : ∃ P : Nat, p = P := ⟨p.toNat, by omega⟩
    have hP : P ≤ 5 := by omega
    obtain ⟨N, hN1, hN32, hN, hw1, hw2⟩ := pow_n hP
    have hfin := loss_fin hq.2 hP
    have hL : lossL (P : Int) x = lossIt x P := by unfold lossL; rw [hok]; rfl
    have hlen := lossIt_len x P
    rw [hN] at hlen
    obtain ⟨L, hLe⟩ : ∃ L, lossIt x P = L := ⟨_, rfl⟩
    rw [hLe] at hL hfin hlen
    have HO := Lib.hid hok
    have HW1 := Lib.hid hw1
    have HW2 := Lib.hid hw2
    have HL := Lib.hid hL
    have HF := Lib.hid hfin
    cases hin : inB c 0 (N : Int)
    · have e1 : pbOk (P : Int) x c = false := by unfold pbOk; rw [hok, Int.toNat_natCast, hN, hin]; rfl
      have e2 : pbL (P : Int) x c = [] := by unfold pbL; rw [e1]; rfl
      rw [e1, e2]
      have HI := Lib.hid hin
      clear e1 e2 hok hq hN hw1 hw2 hfin hL hLe hin hlen
      go_enter Try.func11, Try.ntmps11
      go_wp2_with (first | (go_at_call 10; refine (impl_PolarLosses_c _ (P : Int) x).mono ?_; rintro e w1 ⟨v, rfl, ho, hb⟩; rw [HO.out]; obtain ⟨A, cap, rfl, _, hS⟩ := ho.sl) | (go_at_call 31; (try rw [HW1.out]); (try rw [HW2.out]); refine (impl_within_c _ _ _ _).mono ?_; rintro e w' ⟨rfl, rfl⟩; rw [HI.out]))
      go_ret2
      exact ⟨_, rfl, World.ownsRow_nil _ _ _ _, hb.alloc hb.size _⟩
    · have e1 : pbOk (P : Int) x c = true := by unfold pbOk; rw [hok, Int.toNat_natCast, hN, hin]; rfl
      have hc := inB_true.1 hin
      obtain ⟨k, rfl⟩ : ∃ k : Nat, c = k := ⟨c.toNat, by omega⟩
      have hk : k ≤ N := by omega
      have e2 : pbL (P : Int) x k = (bestOf (keyL L) N k).map fun i => ((i : Nat) : Int) := by unfold pbL; rw [e1, Int.toNat_natCast, Int.toNat_natCast, hN, hLe]; rfl
      have hbl := bestOf_len (key := keyL L) hk
      rw [e1, e2]
      have HI := Lib.hid hin
      have HB := Lib.hid hbl
      have HLN := Lib.hid hlen
      clear e1 e2 hok hq hN hw1 hw2 hfin hL hLe hin hc hbl hlen
      go_enter Try.func11, Try.ntmps11
      go_wp2_with (first | (go_at_call 10; refine (impl_PolarLosses_c _ (P : Int) x).mono ?_; rintro e w1 ⟨v, rfl, ho, hb⟩; rw [HO.out]; rw [HL.out] at ho; obtain ⟨A, cap, rfl, _, hS⟩ := ho.sl; rw [List.length_map, HLN.out]) | (go_at_call 31; (try rw [HW1.out]); (try rw [HW2.out]); refine (impl_within_c _ _ _ _).mono ?_; rintro e w' ⟨rfl, rfl⟩; rw [HI.out]))
      obtain ⟨w2, ew⟩ : ∃ w2 : World, w2 = w1.alloc (.cells #[.slice A N cap] 30) := ⟨_, rfl⟩
      have hz2 : w2.heap.size = w1.heap.size + 1 := by rw [ew]; simp
      have c0 : w2.cell? ⟨w1.heap.size, 0, none⟩ = some (.slice A N cap) := by rw [ew]; (first | (simp; done) | (simp (disch := (first | (simp; done) | (simp; omega))) [World.cell?_alloc_at]; done) | (simp (disch := (first | (simp; done) | (simp; omega))) [World.cell?_alloc_past]; done) | (simp (disch := (first | (simp; done) | (simp; omega))) [World.cell?_alloc_at, World.cell?_alloc_past]; done) | (simp (disch := (first | (simp; done) | (simp; omega))) [World.frozen?_alloc_at]; done) | (simp (disch := (first | (simp; done) | (simp; omega))) [World.frozen?_alloc_past]; done) | (simp (disch := (first | (simp; done) | (simp; omega))) [World.frozen?_alloc_at, World.frozen?_alloc_past]; done))
      have hb12 : Below w1.heap.size w1 w2 := by rw [ew]; exact (Below.refl _ _).alloc (Nat.le_refl _) _
      have hB2 : Below w.heap.size w w2 := hb.trans (hb12.mono hb.size)
      have hS2 : Sl w2 w2.heap.size A (L.map (Value.float .f32)) := (hS.below hb12).more hb12.size
      obtain ⟨lb, hlb⟩ : ∃ lb, w1.heap.size = lb := ⟨_, rfl⟩
      rw [← ew, HW1.out]
      rw [hlb] at c0 hz2 ⊢
      have hlb2 : lb < w2.heap.size := by omega
      have C0 := Lib.hid c0
      have HS2 := Lib.hid hS2
      clear ew hb12 hS ho hb hz2 hlb c0 hS2
      refine (counting_c w2 N (by omega)).mono ?_
      rintro e w3 ⟨v, rfl, ho3, hb3⟩
      obtain ⟨S, cap3, rfl, hp3⟩ := ho3.opn
      rw [List.length_range] at hp3 ⊢
      obtain ⟨g, k4, hv, hbg, hgs⟩ := hp3.form (by omega)
      injection hv with hv1 hv2 hv3
      subst hv1
      subst hv3
      have hC := cmp_of w3 w2.heap.size g lb N cap A L HLN.out HF.out hbg hlb2 hb3.size ((hb3.cell (p := ⟨lb, 0, none⟩) hlb2).trans C0.out) (HS2.out.below hb3)
      have HC := Lib.hid (SortStable_c w3 w2.heap.size g N cap3 lb (keyL L) _ (by omega) hp3 hC)
      unfold cmpV at HC
      have HB3 := Lib.hid hb3
      clear hC hp3 ho3 hb3
      go_wp2_with fail
      refine HC.out.mono ?_
      rintro e w4 ⟨rfl, q, hr, hs, hf, hg⟩
      have hfs := first_sorted hk hs hf
      have hb4 := HB3.out.grown hg HB3.out.size (fun j hj => by cases hj; exact hbg)
      obtain ⟨hcap1, hcap2⟩ := hr.cap
      have hkc : k ≤ cap3 := by omega
      have HR := Lib.hid hr
      have HFS := Lib.hid hfs
      clear hr hfs hs hf hg
      go_wp2_with fail
      refine (Sort_row w4 w2.heap.size g N cap3 k q (by omega) hk hN1 HR.out).mono ?_
      rintro e w5 ⟨rfl, ho5, hg5⟩
      go_wp2_with fail
      go_ret2
      have hb5 := hb4.grown hg5 hb4.size (fun j hj => by cases hj; exact hbg)
      refine ⟨_, rfl, ?_, hB2.trans (hb5.mono hB2.size)⟩
      unfold Ow
      rw [List.length_map, List.length_map, HB.out]
      rw [HFS.out] at ho5
      exact own_base ho5 hB2.size

end Go.Proofs.Ytlcdcicdlfakgaa
