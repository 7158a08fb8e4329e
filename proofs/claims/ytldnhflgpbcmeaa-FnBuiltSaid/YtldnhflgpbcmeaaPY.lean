/-
  Contracts: all words of a code, sorted or in the order of messages; weights and distances.
  Conditions: words of at most 16 digits, at most 8 rows.
-/
import Derived.Test.YtldnhflgpbcmeaaPX
import Derived.Test.YtldnhflgpbcmeaaSO
import Derived.Sort.OwnSortedInts
namespace Go.Proofs.Ytldnhflgpbcmeaa
open Go.RowKit Go.Sort


def sortL (l : List Int) : List Int := l.mergeSort fun x y => decide (x ≤ y)
theorem sortL_len (l : List Int) : (sortL l).length = l.length := List.length_mergeSort l
theorem sortL_perm (l : List Int) : (sortL l).Perm l := List.mergeSort_perm l _
theorem Sort_own (w : World) (base g n cap : Nat) (l : List Int) (hn : n ≤ 1048576) (ho : w.ownsRow base 2 1 (.slice (some ⟨g, 0, none⟩) n cap) n (l.map (Value.int .i64))) (hn1 : 1 ≤ n) :
    Calls Try.prog 53 #[.slice (some ⟨g, 0, none⟩) n cap] w fun e w' => e = .returned (.tuple #[]) ∧ w'.ownsRow base 2 1 (.slice (some ⟨g, 0, none⟩) n cap) n ((sortL l).map (Value.int .i64)) ∧ w.grownBy w' (some g) := by
  have hl : l.length = n := by simpa using ho.1
  subst hl
  rcases ho.2 with ⟨h0, _⟩ | ⟨g', cap', cur, hv, hbg, hgb, h1, h2, h3, h4⟩
  · cases h0
  · injection hv with hv1 hv2 hv3
    injection hv1 with hv1
    injection hv1 with hv1
    subst hv1
    subst hv3
    refine (Try.slices_Sort_int g 0 cap l w (holds_of_blockI hgb (by simpa using h4)) (Array.getElem?_eq_some_iff.1 hgb).1 (by omega)).mono ?_
    rintro e w' ⟨rfl, q, os, rfl⟩
    exact ⟨rfl, ownsRow_sortedI (ts := sortL l) (sortL_len l) hbg hgb h1 h2 h3, grownBy_sortedI _⟩

theorem pow8 {n : Nat} (h : n ≤ 8) : (1 : Nat) ≤ 2 ^ n ∧ 2 ^ n ≤ 256 := ⟨Nat.pow_pos (by decide), Nat.pow_le_pow_right (by decide) h⟩


set_option maxRecDepth 100000 in
theorem impl_messages_c (w : World) (m : Int) (A : Option Addr) (n cap N : Nat) (hn : n ≤ 8) (hN : 2 ^ n = N) :
    Calls Try.prog 35 #[.agg #[.int .i64 m, .slice A n cap]] w fun e w' => e = .returned (.int .i64 (N : Int)) ∧ Below w.heap.size w w' := by
  have hp := wrap16 (M := n) (by omega)
  have hc : (2 : Int) ^ n = (N : Int) := by rw [← hN]; simp
  have H1 := Lib.hid (hp.2.1.trans hc)
  clear hp hc
  go_enter Try.func35, Try.ntmps35
  go_wp2
  go_ret
  exact ⟨ret_int H1.out, (Below.refl _ _).alloc (Nat.le_refl _) _⟩


set_option maxRecDepth 100000 in
set_option maxHeartbeats 1000000 in
theorem impl_codeWords_c (w : World) (m : Int) (A : Option Addr) (n cap : Nat) (xs : List Int) (hl : xs.length = n) (hn : n ≤ 8) (hx : Sl w w.heap.size A (xs.map (Value.int .i64))) :
    Calls Try.prog 42 #[.agg #[.int .i64 m, .slice A n cap]] w fun e w' => ∃ v, e = .returned v ∧ Ow w' w.heap.size 2 v ((sortL (codeL xs)).map (Value.int .i64)) ∧ Below w.heap.size w w' := by
  obtain ⟨N, hN⟩ : ∃ N, 2 ^ n = N := ⟨_, rfl⟩
  have hp := pow8 hn
  rw [hN] at hp
  have HN := Lib.hid hN
  clear hN
  go_enter Try.func42, Try.ntmps42
  go_wp2_with fail
  obtain ⟨w1, ew⟩ : ∃ q : World, q = w.alloc (.cells #[.int .i64 m, .slice A n cap] 27) := ⟨_, rfl⟩
  have e1 : w.heap.size + 1 = w1.heap.size := by rw [ew]; simp
  rw [← ew, e1]
  have hB : Below w.heap.size w w1 := by rw [ew]; exact (Below.refl _ _).alloc (Nat.le_refl _) _
  have c0 : w1.cell? ⟨w.heap.size, 0, none⟩ = some (.int .i64 m) := by rw [ew]; (first | (simp; done) | (simp (disch := (first | (simp; done) | (simp; omega))) [World.cell?_alloc_at]; done) | (simp (disch := (first | (simp; done) | (simp; omega))) [World.cell?_alloc_past]; done) | (simp (disch := (first | (simp; done) | (simp; omega))) [World.cell?_alloc_at, World.cell?_alloc_past]; done) | (simp (disch := (first | (simp; done) | (simp; omega))) [World.frozen?_alloc_at]; done) | (simp (disch := (first | (simp; done) | (simp; omega))) [World.frozen?_alloc_past]; done) | (simp (disch := (first | (simp; done) | (simp; omega))) [World.frozen?_alloc_at, World.frozen?_alloc_past]; done))
  have c1 : w1.cell? ⟨w.heap.size, 1, none⟩ = some (.slice A n cap) := by rw [ew]; (first | (simp; done) | (simp (disch := (first | (simp; done) | (simp; omega))) [World.cell?_alloc_at]; done) | (simp (disch := (first | (simp; done) | (simp; omega))) [World.cell?_alloc_past]; done) | (simp (disch := (first | (simp; done) | (simp; omega))) [World.cell?_alloc_at, World.cell?_alloc_past]; done) | (simp (disch := (first | (simp; done) | (simp; omega))) [World.frozen?_alloc_at]; done) | (simp (disch := (first | (simp; done) | (simp; omega))) [World.frozen?_alloc_past]; done) | (simp (disch := (first | (simp; done) | (simp; omega))) [World.frozen?_alloc_at, World.frozen?_alloc_past]; done))
  have hz1 : w.heap.size < w1.heap.size := by omega
  have ho1 := own_empty w1 w1.heap.size 2 (Nat.le_refl _)
  have hb1 : Below w1.heap.size w1 (w1.alloc (.cells #[] 2)) := (Below.refl _ _).alloc (Nat.le_refl _) _
  have HX := Lib.hid hx
  clear ew e1 hx
  refine (impl_messages_c _ m A n cap N hn HN.out).mono ?_
  rintro e w2 ⟨rfl, hb2⟩
  have ho2 := own_below ho1 hb2 (Nat.le_refl _)
  have hB2 : Below w1.heap.size w1 w2 := hb1.trans (hb2.mono hb1.size)
  clear ho1 hb1 hb2
  go_wp2_with fail
  go_loopw [3, 8] (fun v i wr => ∃ k : Nat, k ≤ N ∧ i = .int .i64 k ∧ Ow wr w1.heap.size 2 v ((codeK xs k).map (Value.int .i64)) ∧ Below w1.heap.size w1 wr) (fun _ i _ => N - (intOf i).toNat)
  case atStart => exact ⟨0, Nat.zero_le _, rfl, ho2, hB2⟩
  case round =>
    clear ho2 hB2
    obtain ⟨k, hk, rfl, ho, hb⟩ := hrel
    obtain ⟨wo, rfl⟩ : ∃ wo : World, wo = wr := ⟨_, rfl⟩
    have hz := hb.size
    by_cases hlt : k < N
    · have d0 := (hb.cell (p := ⟨w.heap.size, 0, none⟩) hz1).trans c0
      have d1 := (hb.cell (p := ⟨w.heap.size, 1, none⟩) hz1).trans c1
      have hst := codeK_succ xs k
      have hlen : ((codeK xs k).map (Value.int .i64)).length + 1 ≤ 1099511627776 := by rw [List.length_map, codeK_len]; omega
      have hbx : Below w.heap.size w wo := hB.trans (hb.mono hB.size)
      have HT := Lib.hid hst
      clear hst
      go_wp2_with fail
      refine (impl_encode_c wo m A n cap xs hl hn ((HX.out.below hbx).more hbx.size) (k : Int)).mono ?_
      rintro e w3 ⟨rfl, hb3⟩
      have ho3 := own_below ho hb3 (Nat.le_refl _)
      have hB3 : Below w1.heap.size w1 w3 := hb.trans (hb3.mono hz)
      have hz3 := hB3.size
      obtain ⟨y, hy⟩ : ∃ y, encL xs (k : Int) = y := ⟨_, rfl⟩
      rw [hy]
      have HY := Lib.hid hy
      clear d0 d1 ho hy
      go_wp2_with (at_builtin; refine app1 Try.underlying25 infoInt64 rfl (by decide) rfl _ _ rfl _ _ _ rfl (ho3.alloc _) _ _ _ rfl (cell_new1 _ _ _) rfl hlen (by simp; omega) ?_; intro v' w4 ho4 hb4)
      go_roundw
      case rel =>
        refine ⟨k + 1, by omega, by go_num, ?_, (hB3.alloc hz3 _).trans hb4⟩
        rw [HT.out, HY.out, List.map_append]
        exact ho4
      case measure => simp [intOf]; omega
    · have : k = N := by omega
      subst this
      obtain ⟨S, k3, rfl, hp3⟩ := ho.opn
      rw [codeK_len] at hp3 ⊢
      obtain ⟨g, k4, hv, hbg, hgs⟩ := hp3.form (by omega)
      injection hv with hv1 hv2 hv3
      subst hv1
      subst hv3
      clear ho
      go_wp2_with fail
      refine (Sort_own wo w1.heap.size g k k3 (codeK xs k) (by omega) hp3 (by omega)).mono ?_
      rintro e w5 ⟨rfl, ho5, hg5⟩
      go_wp2
      go_ret
      refine ⟨_, rfl, ?_, hB.trans ((hb.grown hg5 hz (fun j hj => by cases hj; exact hbg)).mono hB.size)⟩
      have e1 : codeL xs = codeK xs k := by unfold codeL; rw [hl, HN.out]
      have e2 : ((sortL (codeK xs k)).map (Value.int .i64)).length = k := by rw [List.length_map, sortL_len, codeK_len]
      rw [e1]
      unfold Ow
      rw [e2]
      exact own_base ho5 hB.size

end Go.Proofs.Ytldnhflgpbcmeaa
