/-
  Contracts: -1, repeated.
  Conditions: at most 256 times.
-/
import Derived.Test.YtldnhflgpbcmeaaH
import Derived.Deep.RegionLaw
import Derived.Laws.CopyOwn
namespace Go.Proofs.Ytldnhflgpbcmeaa
open Go.RowKit


theorem ret_pair {k : IntKind} {a a' b b' : Int} (h : a = a') (h2 : b = b') : Ending.returned (.tuple #[.int k a, .int k b]) = Ending.returned (.tuple #[.int k a', .int k b']) := by rw [h, h2]
set_option maxRecDepth 100000 in
theorem Mul64_c (w : World) (x : Int) (h0 : 0 ≤ x) (h1 : x ≤ 256) : Calls Try.prog 87 #[.int .u64 1, .int .u64 x] w fun e w' => e = .returned (.tuple #[.int .u64 0, .int .u64 x]) ∧ w = w' := by
  have hx : IntKind.u64.wrap x = x := IntWalk.u64_in _ (by omega)
  obtain ⟨n, hn, rfl⟩ : ∃ n : Nat, n < 257 ∧ x = n := ⟨x.toNat, by omega, by omega⟩
  go_enter Try.func87, Try.ntmps87
  go_wp2
  go_ret2
  refine ⟨ret_pair (a := _) (b := _) ?_ ?_, rfl⟩
  all_goals
    clear hx h0 h1
    clear w
    revert n
    decide +kernel

set_option maxRecDepth 100000 in
theorem Mul_c (w : World) (x : Int) (h0 : 0 ≤ x) (h1 : x ≤ 256) : Calls Try.prog 78 #[.int .u64 1, .int .u64 x] w fun e w' => e = .returned (.tuple #[.int .u64 0, .int .u64 x]) ∧ w = w' := by
  go_enter Try.func78, Try.ntmps78
  go_wp2_with (go_at_call 87; refine (Mul64_c _ x h0 h1).mono ?_; rintro e w' ⟨rfl, rfl⟩)
  go_ret2
  exact ⟨rfl, rfl⟩


theorem sp_rep (a z : Value) {n k c : Nat} (h : k + c ≤ n) : Go.splice (List.replicate k a ++ List.replicate (n - k) z) k (List.replicate c a) = List.replicate (k + c) a ++ List.replicate (n - (k + c)) z := by
  unfold Go.splice
  rw [List.take_append_of_le_length (by simp), List.take_of_length_le (by simp), List.drop_append]
  rw [List.drop_eq_nil_of_le (by simp)]
  simp only [List.length_replicate, List.nil_append, List.drop_replicate]
  rw [← List.append_assoc, List.replicate_append_replicate, show n - k - (k + c - k) = n - (k + c) by omega]
theorem add_at (g o j : Nat) : (⟨g, o, none⟩ : Addr).add j = ⟨g, o + j, none⟩ := by unfold Addr.add; split <;> simp_all
theorem row_own {w : World} {base g n : Nat} {e : TypeId} {l : List Value} (hb : base ≤ g) (h : w.heap[g]? = some (.cells l.toArray e (0, 0))) (hl : l.length = n) (hn : n ≤ 1048576) : w.ownsRow base e 1 (.slice (some ⟨g, 0, none⟩) n n) n l :=
  ⟨by omega, .inr ⟨g, n, l.toArray, rfl, hb, h, Nat.le_refl _, by unfold maxLen; omega, by simp [hl], by rw [List.take_of_length_le (by simp [hl])]⟩⟩
set_option maxRecDepth 100000 in
set_option maxHeartbeats 1000000 in
theorem Repeat_c (w : World) (b c n : Nat) (hn1 : 1 ≤ n) (hn : n ≤ 256) (hb : b < w.heap.size) (hc : w.cell? ⟨b, 0, none⟩ = some (.int .i64 (-1))) :
    Calls Try.prog 64 #[.slice (some ⟨b, 0, none⟩) 1 c, .int .i64 (n : Int)] w fun e w' => ∃ v, e = .returned v ∧ Ow w' w.heap.size 2 v ((List.replicate n (-1)).map (Value.int .i64)) ∧ Below w.heap.size w w' := by
  have hcv : IntKind.u64.wrap (n : Int) = (n : Int) := IntWalk.u64_in _ (by omega)
  have hcv1 : IntKind.u64.wrap 1 = 1 := IntWalk.u64_in _ (by omega)
  have hmk := fun W : World => run_mk (P := Try.prog) Try.underlying25 infoInt64 rfl (by decide) n (by omega) .i64 .i64 W
  go_enter Try.func64, Try.ntmps64
  have hal : (w.alloc (.cells (zeroRow (.int .i64 0) n) 2)).cell? ⟨b, 0, none⟩ = some (.int .i64 (-1)) := (World.cell?_alloc_old w _ _ (Nat.ne_of_lt hb)).trans hc
  have hal2 : ∀ j v, [Value.int .i64 (-1)][j]? = some v → (w.alloc (.cells (zeroRow (.int .i64 0) n) 2)).cell? ((⟨b, 0, none⟩ : Addr).add j) = some v := by
    intro j v hj
    cases j with
    | zero => cases hj; rw [add_at]; exact hal
    | succ j => cases hj
  have HAL := Lib.hid hal2
  clear hal hal2
  go_wp2_with (first
    | (go_at_call 78; refine (Mul_c _ (n : Int) (by omega) (by omega)).mono ?_; rintro e w' ⟨rfl, rfl⟩)
    | (refine wpList_copy_splice rfl (.tmp 31) (.tmp 32) 25 25 rfl 2 Try.underlying25 (by kernel_rfl) (some ⟨w.heap.size, 0, none⟩) (some ⟨b, 0, none⟩) n n 1 c rfl rfl w.heap.size 0 (List.replicate n (.int .i64 0)) 2 (heap_alloc_new w _) [.int .i64 (-1)] (Nat.min_eq_left hn1).symm (fun _ => ⟨rfl, ⟨b, 0, none⟩, rfl, HAL.out⟩) (by simp; omega) (by simp [Value.oneCell']) w.heap.size w ((Below.refl _ _).alloc (Nat.le_refl _) _) (Nat.le_refl _) ?_; intro w2 hg2 hb2))
  have hg3 : w2.heap[w.heap.size]? = some (.cells (List.replicate 1 (Value.int .i64 (-1)) ++ List.replicate (n - 1) (Value.int .i64 0)).toArray 2 (0, 0)) := by
    have h := hg2.out
    have e := sp_rep (.int .i64 (-1)) (.int .i64 0) (n := n) (k := 0) (c := 1) (by omega)
    simp only [List.replicate_zero, List.nil_append, Nat.sub_zero, Nat.zero_add] at e
    rw [← e]
    exact h
  clear hmk hcv hcv1 hg2
  go_loopw [8] (fun i wr => ∃ k : Nat, 1 ≤ k ∧ k ≤ n ∧ i = .int .i64 k ∧ wr.heap[w.heap.size]? = some (.cells (List.replicate k (Value.int .i64 (-1)) ++ List.replicate (n - k) (Value.int .i64 0)).toArray 2 (0, 0)) ∧ Below w.heap.size w wr) (fun i _ => n - (intOf i).toNat)
  case atStart => exact ⟨1, Nat.le_refl _, hn1, rfl, hg3, hb2⟩
  case round =>
    clear hg3 hb2
    obtain ⟨k, hk1, hk, rfl, hg, hb3⟩ := hrel
    have HG := Lib.hid hg
    clear hg
    by_cases hlt : k < n
    · obtain ⟨m, hm⟩ : ∃ m, Nat.min k (n - k) = m := ⟨_, rfl⟩
      have hm1 : 1 ≤ m ∧ m ≤ k ∧ k + m ≤ n := by
        have h1 : m = min k (n - k) := hm.symm
        omega
      have hsp := sp_rep (.int .i64 (-1)) (.int .i64 0) hm1.2.2
      have HSP := Lib.hid hsp
      clear hsp
      have i1 : (0 : Int) ≤ (k : Int) := by omega
      have i2 : (k : Int) ≤ (n : Int) := by omega
      have i3 : ((n : Int) - (k : Int)).toNat = n - k := by omega
      have i4 : IntKind.i64.wrap ((k : Int) + (m : Int)) = (k : Int) + (m : Int) := IntWalk.i64_in _ (by omega)
      have hnk : ¬ n = k := by omega
      have hbd : Below w.heap.size w wr.drew := ⟨hb3.os, hb3.tape, hb3.output, hb3.size, hb3.block⟩
      have hcell : ∀ j v, (List.replicate m (Value.int .i64 (-1)))[j]? = some v → wr.drew.cell? ((⟨w.heap.size, 0, none⟩ : Addr).add j) = some v := by
        intro j v hj
        have h := cell_of_row wr.drew w.heap.size (0 + j) _ 2 (0, 0) HG.out
        rw [add_at, h]
        rw [List.getElem?_replicate] at hj
        split at hj
        · rename_i hjm
          cases hj
          simp [List.getElem?_append, show j < k by omega]
        · cases hj
      have HCELL := Lib.hid hcell
      clear hcell
      have hrl : (List.replicate m (Value.int .i64 (-1))).length = m := List.length_replicate
      go_wp2_with fail
      go_region_law (refine step_copy_splice rfl (.tmp 41) (.tmp 44) 25 25 rfl 2 Try.underlying25 (by kernel_rfl) (some ⟨w.heap.size, k, none⟩) (some ⟨w.heap.size, 0, none⟩) (n - k) (n - k) k n (by simp [Act.eval, Act.put]) (by simp [Act.eval, Act.put]) w.heap.size k (List.replicate k (Value.int .i64 (-1)) ++ List.replicate (n - k) (Value.int .i64 0)) 2 HG.out (List.replicate m (.int .i64 (-1))) (by rw [hrl]; exact hm.symm) (fun _ => ⟨rfl, ⟨w.heap.size, 0, none⟩, rfl, HCELL.out⟩) (by simp; omega) (by simp [Value.oneCell']) w.heap.size w hbd (Nat.le_refl _) ?_; intro w4 hg4 hb4)
      simp only [List.getElem_toArray, List.getElem_cons_succ, List.getElem_cons_zero, Act.put, List.setIfInBounds_toArray, List.set_cons_succ, List.set_cons_zero]
      go_wp2
      go_roundw
      case rel => exact ⟨k + m, by omega, by omega, by go_num, by rw [← HSP.out]; exact hg4.out, hb4⟩
      case measure => simp [intOf]; omega
    · have : k = n := by omega
      subst this
      go_wp2
      go_ret
      refine ⟨_, rfl, ?_, hb3⟩
      have h := HG.out
      rw [Nat.sub_self, List.replicate_zero, List.append_nil] at h
      unfold Ow
      rw [List.length_map, List.length_replicate, List.map_replicate]
      exact row_own (Nat.le_refl _) h (by simp) (by omega)


set_option maxRecDepth 100000 in
theorem impl_none_c (w : World) (n : Nat) (hn1 : 1 ≤ n) (hn : n ≤ 256) :
    Calls Try.prog 58 #[.int .i64 (n : Int)] w fun e w' => ∃ v, e = .returned v ∧ Ow w' w.heap.size 2 v ((List.replicate n (-1)).map (Value.int .i64)) ∧ Below w.heap.size w w' := by
  go_enter Try.func58, Try.ntmps58
  go_wp2_with (go_at_call 64; refine (Repeat_c _ w.heap.size _ n hn1 hn (by simp) (cell_new1 _ _ _)).mono ?_; rintro e w' ⟨v, rfl, ho, hb⟩)
  go_ret
  exact ⟨_, rfl, own_base ho (by simp), ((Below.refl _ _).alloc (Nat.le_refl _) _).trans (hb.mono (by simp))⟩

end Go.Proofs.Ytldnhflgpbcmeaa
